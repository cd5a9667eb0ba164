/-
  Parts of a proof: lemmas that the last text uses.
-/
import Derived.Test.YtpkekfapphbgjaaGreatDoorQ4
import Derived.WalkKit
import Derived.LaidEql
import Derived.Stop.Asserts
import Derived.RowKitTokens
set_option linter.unusedVariables false
set_option linter.unusedSimpArgs false
set_option maxHeartbeats 16000000
variable {l r:List Go.Aw.Nd} {t b k i id b2 bo frm:Nat} {s:List UInt8} {n x:Go.Aw.Nd} {p:Int} {w o:Go.Aw.AE} {Q:Go.Aw.AG->Go.Aw.Env->Go.Aw.St->Prop} {env:List Go.Proofs.Z.Fx} {cs:List Go.Aw.V} {all:List Go.Oper} {sched:List (Nat×Bool)} {L:List Nat} {K:Go.Aw.V->Go.Aw.St->Prop} {ty:Go.TypeId} {ops:Array Go.Oper} {P:Go.Program} {R:Go.Aw.Au->Go.Aw.St->Prop}
namespace Go.Proofs.Z
open Go Go.Aw
open Rd (ret seq fail Ee look loop)
def lC (item:Rd Nd) (l:List Nd):Rd (Sum (List Nd) (List Nd)):=.seq item λn=>.look λs=>if Bq s 15 [44]=true then .seq AR λc=>.ret (.inl (l++[n]++[c])) else .ret (.inr (l++[n]))
def lB (item:Rd Nd) (shut:List UInt8) (p:Bool×List Nd):Rd (Sum (Bool×List Nd) (List Nd)):=
 if p.1=true then .look λs=>if Bq s 15 shut=true then .ret (.inr p.2) else .seq item λn=>.look λs=>if Bq s 15 [44]=true then .seq AR λc=>.ret (.inl (false,p.2++[n]++[c])) else .ret (.inr (p.2++[n]))
 else .seq item λn=>.look λs=>if Bq s 15 [44]=true then .seq AR λc=>.ret (.inl (false,p.2++[n]++[c])) else .ret (.inr (p.2++[n]))
def H7 (item:Rd Nd) (shut:List UInt8) (l:List Nd):Rd (List Nd):=.seq (.loop (lB item shut) (true,l)) λl=>.seq (Bx 15 shut) λc=>.ret (l++[c])
def Ht (ks:List Int):Rd Nd:=.seq (Bx 15 [40]) λo=>.seq (Dl ks) λn=>.seq (Bx 15 [41]) λc=>.ret (Ar 3 [o,n,c])
def mz (n:Nd):Int:=match n.kids[1]? with
 |some x=>x.form
 |none=>0
def Th:Rd Nd:=.look λs=>if Bq s 15 [40]=true then .look λs0=>.seq (Ht [5,6]) λn=>if (mz n==5)=true then .ret n else .Ee s0 Ie else Dl [1]
def V7:Rd Nd:=.look λs=>if Bq s 15 [40]=true then Ht [5,6] else Dl [1,2]
def cP (own:Bool):List Int:=if own then [1] else [1,3]
def Sf (own:Bool):List Int:=if own then [2] else [2,4]
def xP (own:Bool):List Int:=if own then [5,6] else [5,6,7,8]
abbrev XJ:List UInt8:=[109,111,100,117,108,101]
abbrev dg:List UInt8:=[113,117,97,108,105,102,105,101,100]
abbrev wAs:List UInt8:=[97,115]
abbrev uE:List UInt8:=[104,105,100,105,110,103]
abbrev XI:List UInt8:=[105,109,112,111,114,116]
abbrev uD:List UInt8:=[101,120,112,111,114,116]
abbrev zl:List UInt8:=[115,97,102,101]
abbrev uG:List UInt8:=[117,110,115,97,102,101]
abbrev vF:List UInt8:=[116,121,112,101]
abbrev vE:List UInt8:=[100,97,116,97]
abbrev Z6:List UInt8:=[110,101,119,116,121,112,101]
abbrev qm:List UInt8:=[99,108,97,115,115]
abbrev U2:List UInt8:=[105,110,115,116,97,110,99,101]
abbrev Z4:List UInt8:=[100,101,102,97,117,108,116]
abbrev Z5:List UInt8:=[102,111,114,101,105,103,110]
abbrev jT:List UInt8:=[100,101,114,105,118,105,110,103]
def nT (l:List Nd):Rd Nd:=.look λs=>if Bq s 15 [40]=true then .seq AR λo=>.look λs=>if Bq s 10 [46,46]=true then .seq AR λd=>.seq (Bx 15 [41]) λc=>.ret (Ar 52 (l++[o]++[d,c]))
 else .seq (H7 V7 [41] (l++[o])) λl=>.ret (Ar 52 l)
 else .ret (Ar 52 l)
def nU (own:Bool):Rd Nd:=.look λs=>if Bq s 15 [40]=true then .seq (Ht (xP own)) λn=>.ret (Ar 52 [n])
 else if ((Ac s).1.kind==2)=true then .seq (Dl (Sf own)) λn=>nT [n]
 else if ((Ac s).1.kind==4)=true then .seq (Dl (Sf own)) λn=>nT [n]
 else .seq (Dl (cP own)) λn=>.ret (Ar 52 [n])
def nV (own:Bool):Rd Nd:=if own=true then nU own else .look λs=>if Bq s 9 XJ=true then .seq AR λm=>.seq (Dl (Sf own)) λn=>.ret (Ar 52 [m,n]) else nU own
def nY (own:Bool) (l:List Nd):Rd (Sum (List Nd) (List Nd)):=.look λs=>if Bq s 15 [41]=true then .ret (.inr l) else lC (nV own) l
def G7 (own:Bool):Rd Nd:=.seq (Bx 15 [40]) λo=>.seq (.loop (nY own) [o]) λl=>.seq (Bx 15 [41]) λc=>.ret (Ar 51 (l++[c]))
def VS (l:List Nd):Rd Nd:=.seq (G7 true) λn=>.ret (Ar 50 (l++[n]))
def VR (l:List Nd):Rd Nd:=.look λs=>if Bq s 1 uE=true then .seq AR λh=>VS (l++[h])
 else if Bq s 15 [40]=true then VS l else .ret (Ar 50 l)
def VQ (l:List Nd):Rd Nd:=.seq (Dl [2,4]) λn=>.look λs=>if Bq s 1 wAs=true then .seq AR λa=>.seq (Dl [2,4]) λm=>VR (l++[n]++[a]++[m]) else VR (l++[n])
def NB:Rd Nd:=.seq AR λi=>.look λs=>if Bq s 1 dg=true then .seq AR λq=>VQ ([i]++[q]) else VQ [i]
def Sc (full:Rd Nd) (l:List Nd):Rd Nd:=.seq Th λn=>.seq (Bx 10 [58,58]) λc=>.seq full λt=>.ret (Ar 47 (l++[n]++[c]++[t]))
def Nz (full:Rd Nd) (l:List Nd):Rd Nd:=.look λs=>if ((Ac s).1.kind==14)=true then .seq AR λt=>Sc full (l++[t]) else Sc full l
def Yw (full:Rd Nd) (l:List Nd):Rd Nd:=.look λs=>if (if Bq s 1 zl=true then true else Bq s 1 uG)=true then
 (if Bq (Ac s).2.1 10 [58,58]=true then Nz full l else .seq AR λt=>Nz full (l++[t]))
 else Nz full l
def Sb (full:Rd Nd) (l:List Nd):Rd Nd:=.seq AR λw=>.seq (Dl [1]) λn=>Yw full (l++[w]++[n])
def NA (full:Rd Nd):Rd Nd:=.seq AR λf=>.look λs=>if Bq s 9 XI=true then Sb full [f] else if Bq s 1 uD=true then Sb full [f] else Ow
def Li (whole:Rd Nd):Rd Nd:=.seq AR λd=>.seq (Bx 15 [40]) λo=>.seq (H7 whole [41] [d,o]) λl=>.ret (Ar 46 l)
def D3 (n:Nd):Bool:=if n.kind==39 then n.kids.head?.all (D6 · [2])&&n.kids.tail.all (D6 · [1]) else D6 n [2]
def L4 (row:Rd Nd) (l:List Nd):Rd (List Nd×Nd):=.seq row λr=>.look λs=>if Bq s 10 [61,62]=true then .seq AR λa=>.seq row λq=>.ret (l++[r]++[a],q) else .ret (l,r)
def Ir (b:Bool):Rd Unit:=if b=true then .ret () else .fail Ie
def Of (row whole:Rd Nd):Rd Nd:=.seq AR λt=>.seq row λr=>.seq (Ir (D3 r)) λ_=>.seq (Bx 10 [61]) λe=>.seq whole λw=>.ret (Ar 41 ([t,r]++[e]++[w]))
def Oe (atom:Rd Nd):Rd Nd:=.seq AR λb=>.seq atom λa=>.ret (Ar 40 [b,a])
def K6 (atom:Rd Nd):Rd Nd:=.look λs=>if Bq s 5 [33]=true then Oe atom
 else if Bq s 15 [40]=true then (if ((Ac (Ac s).2.1).1.kind==6)=true then Ht [6] else atom)
 else atom
def XD (t:Tk):Bool:=if t.kind==5 then t.text==[33] else if t.kind==15 then t.text==[40]||t.text==[91] else t.kind==2||t.kind==4||t.kind==1
def cD (atom:Rd Nd) (l:List Nd):Rd (Sum (List Nd) (List Nd)):=.look λs=>if XD (Ac s).1=true then .seq (K6 atom) λn=>.ret (.inl (l++[n])) else .ret (.inr l)
def O1 (atom:Rd Nd):Rd (List Nd):=.seq (K6 atom) λn=>.loop (cD atom) [n]
def EV (n:Nd):Bool:=n.kind==40
def fq (l:List Nd):Rd Nd:=if l.length=1 then .ret (l.headD Gg) else .seq (Ir (!l.any EV)) λ_=>.ret (Ar 39 l)
def Gu (n:Nd):Bool:=D6 n [2]||(n.kind==3&&n.kids.length==3&&n.kids[1]?.any (D6 · [6]))
def mj (l:List Nd):Rd (Sum (List Nd) (List Nd)):=.look λs=>if Bq s 15 [44]=true then .seq AR λc=>.seq Th λn=>.ret (.inl (l++[c]++[n])) else .ret (.inr l)
def Oj (atom whole:Rd Nd):Rd Nd:=.seq Th λn=>.seq (.loop mj [n]) λl=>.seq (Bx 10 [58,58]) λc=>.look λs=>
 if Bq s 5 [33]=true then .seq (Oe atom) λt=>.ret (Ar 13 (l++[c]++[t])) else .seq whole λt=>.ret (Ar 13 (l++[c]++[t]))
def c9:Rd Nd:=.look λs=>if ((Ac s).1.kind==6)=true then .seq AR λt=>.ret (Ar 18 [t])
 else .look λs0=>.seq AR λo=>.seq (Dl [1,2,3,4]) λn=>.seq (Bx 15 [96]) λc=>if (n.form==2)=true then .ret (Ar 18 [o,n,c]) else .Ee s0 Ie
def Le (atom:Rd Nd) (l:List Nd):Rd Nd:=.seq (fq l) λa=>.seq c9 λo=>.seq (O1 atom) λr=>.seq (fq r) λb=>.ret (Ar 48 [a,o,b])
def Nf (atom:Rd Nd) (l:List Nd):Rd Nd:=.look λs=>if ((Ac s).1.kind==6)=true then Le atom l else if Bq s 15 [96]=true then Le atom l
 else .seq (Ir (Gu (l.headD Gg))) λ_=>.ret (Ar 48 l)
def JG (atom whole:Rd Nd):Rd Nd:=.seq (O1 atom) λl=>if (l.length==1&&Gu (l.headD Gg))=true then
 .look λs=>if Bq s 15 [123]=true then .seq AR λo=>.seq (H7 (Oj atom whole) [125] (l++[o])) λl=>.ret (Ar 48 l) else Nf atom l
 else Nf atom l
def Lj:Rd Nd:=.seq AR λd=>.look λs=>if Bq s 15 [40]=true then .seq AR λo=>.seq (H7 (Dl [2,4]) [41] ([d]++[o])) λl=>.ret (Ar 49 l) else .seq (Dl [2,4]) λc=>.ret (Ar 49 ([d]++[c]))
def Nh (k:Int) (l:List Nd):Rd Nd:=.look λs=>if Bq s 9 jT=true then .seq Lj λd=>.ret (Ar k (l++[d])) else .ret (Ar k l)
def uW (atom whole:Rd Nd) (p:List UInt8×List Nd):Rd (Sum (List UInt8×List Nd) (List Nd)):=.look λs=>if Bq s 10 p.1=true then .seq AR λe=>.seq (JG atom whole) λc=>.ret (.inl ([124],p.2++[e]++[c])) else .ret (.inr p.2)
def dH (atom row whole:Rd Nd):Rd Nd:=.seq AR λd=>.seq (L4 row [d]) λp=>.seq (Ir (D3 p.2)) λ_=>.seq (.loop (uW atom whole) ([61],p.1++[p.2])) λl=>Nh 42 l
def NP (n:Nd):Bool:=if Gu (n.kids.headD Gg) then
 (if n.kids.length=2 then !EV (n.kids[1]?.getD Gg)
 else if n.kids.length=4/\(n.kids[2]?.getD Gg).kind=13 then decide ((n.kids[2]?.getD Gg).kids.length=3)&& !EV ((n.kids[2]?.getD Gg).kids[2]?.getD Gg) else false)
 else false
def NR (atom row whole:Rd Nd):Rd Nd:=.seq AR λd=>.seq (L4 row [d]) λp=>.seq (Ir (D3 p.2)) λ_=>.seq (Bx 10 [61]) λe=>.seq (JG atom whole) λc=>.seq (Ir (NP c)) λ_=>Nh 43 (p.1++[p.2]++[e]++[c])
def dA (decls:Rd Nd) (k:Int) (l:List Nd) (may:Nd->Bool):Rd Nd:=.look λs=>if Bq s 9 Ke=true then .seq AR λw=>.seq decls λb=>.seq (Ir (b.kids.all may)) λ_=>.ret (Ar k (l++[Ar 31 [w,b]])) else .ret (Ar k l)
def G5 (n:Nd):Bool:=n.kind==39&&n.kids.length==2&&D6 (n.kids[0]?.getD Gg) [2]&&D6 (n.kids[1]?.getD Gg) [1]
def KJ (n:Nd):Bool:=n.kind==39&&n.kids.length==2&&D6 (n.kids[0]?.getD Gg) [2,4]
def Vm (row decls:Rd Nd):Rd Nd:=.seq AR λc=>.seq (L4 row [c]) λp=>.seq (Ir (G5 p.2)) λ_=>dA decls 44 (p.1++[p.2]) λ_=>true
def Lr (row decls:Rd Nd):Rd Nd:=.seq AR λc=>.seq (L4 row [c]) λp=>.seq (Ir (KJ p.2)) λ_=>dA decls 45 (p.1++[p.2]) λn=>n.kind==36
def qd (atom row whole full decl decls:Rd Nd):Rd Nd:=.look λs=>if ((Ac s).1.kind==9)=true then
 (if ((Ac s).1.text==XI)=true then NB
 else if ((Ac s).1.text==vF)=true then Of row whole
 else if ((Ac s).1.text==vE)=true then dH atom row whole
 else if ((Ac s).1.text==Z6)=true then NR atom row whole
 else if ((Ac s).1.text==qm)=true then Vm row decls
 else if ((Ac s).1.text==U2)=true then Lr row decls
 else if ((Ac s).1.text==Z4)=true then Li whole
 else if ((Ac s).1.text==Z5)=true then NA full
 else decl)
 else decl
def fD (t:Tk):Bool:=(t.kind==9&&(t.text==XI||t.text==vF||t.text==vE||t.text==Z6||t.text==qm||t.text==U2||t.text==Z4||t.text==Z5))||(GJ t||My t)
def Xx (d:Nat):Rd Nd:=JR (DP (DT (d - 1))) λs v s' h=>Nat.le_of_lt (BM (Bw _) _ _ _ h)
def qh (d:Nat):Rd Nd:=JR (Hb (DP (DT (d - 1)))) λs v s' h=>Nat.le_of_lt (FH (BM (Bw _)) _ _ _ h)
def XF (d:Nat):Rd Nd:=JR (EG (DP (DT (d - 1)))) λs v s' h=>Nat.le_of_lt (GS (BM (Bw _)) _ _ _ h)
end Go.Proofs.Z
namespace Go.Proofs.Z
open Go Go.Aw
def qq (t:Tk):Bool:= !(t.kind==16)&&(!(t.kind==17)&&vm t.kind t.text)
def DL (l:List Tk):List Tk:=l.filter qq
def Vo (l:List Tk) (a b:Int):List Tk:=(l.take b.toNat).drop a.toNat
theorem Ng {l:List Tk} {a:Int}:Vo l a a=[]:=by
 unfold Vo
 exact List.drop_eq_nil_iff.2 NE
theorem ru {l:List Tk} {a:Int} {t:Tk} (U:0<=a) (h:l[a.toNat]? =some t):Vo l a (a+1)=[t]:=by
 unfold Vo
 rw [show (a+1).toNat=a.toNat+1 by omega,List.take_add_one,h]
 have hl:=(List.getElem?_eq_some_iff.1 h).1
 rw [List.drop_append,List.drop_eq_nil_iff.2 NE,List.length_take,Nat.min_eq_left AC,Nat.sub_self]
 rfl
theorem rq {l:List Tk} {a b c:Int} (h0:0<=a) (h1:a<=b) (h2:b<=c):Vo l a b++Vo l b c=Vo l a c:=by
 unfold Vo
 obtain ⟨x,rfl⟩:∃x:Nat,a=x:=⟨a.toNat,AC⟩
 obtain ⟨y,rfl⟩:∃y:Nat,b=y:=⟨b.toNat,AC⟩
 obtain ⟨z,rfl⟩:∃z:Nat,c=z:=⟨c.toNat,AC⟩
 simp only [Int.toNat_natCast]
 have e:l.take y=(l.take z).take y:=by rw [List.take_take,Nat.min_eq_left AC]
 rw [e]
 generalize l.take z=m
 have hx:m.drop x=(m.take y).drop x++m.drop y:=by
  have U:m=m.take y++m.drop y:=(List.take_append_drop y m).symm
  by_cases hy:y<=m.length
  .conv=>lhs;rw [U]
   rw [List.drop_append,List.length_take,Nat.min_eq_left hy,show x - y=0 by omega,List.drop_zero]
  .rw [List.drop_eq_nil_iff.2 (show m.length<=y by omega),List.append_nil,List.take_of_length_le AC]
 exact hx.symm
structure Ps (s s':Aj) (m:List Tk):Prop where
 tk:s'.Ay=s.Ay
 le:s.pos<=s'.pos
 ok:s'=s\/(0<=s.pos/\s'.pos<=s.Ay.length)
 eq:DL m=DL (Vo s.Ay s.pos s'.pos)
theorem Ps.nil (s:Aj):Ps s s []:=⟨rfl,Int.le_refl _,.inl rfl,by rw [Ng]⟩
theorem Ps.trans {s s1 s2:Aj} {m n:List Tk} (h:Ps s s1 m) (k:Ps s1 s2 n):Ps s s2 (m++n):=by
 have ht:=k.tk.trans h.tk
 have hw:DL (m++n)=DL m++DL n:=by unfold DL;rw [List.filter_append]
 rcases h.ok with rfl|⟨U,a2⟩
 .refine ⟨ht,k.le,k.ok,?_⟩
  rw [hw,h.eq,Ng,k.eq];rfl
 .have hle:=h.le
  rcases k.ok with rfl|⟨b1,b2⟩
  .refine ⟨ht,hle,.inr ⟨U,a2⟩,?_⟩
   rw [hw,h.eq,k.eq,Ng];exact List.append_nil _
  .have kle:=k.le
   refine ⟨ht,AC,.inr ⟨U,by rw [<-h.tk];exact b2⟩,?_⟩
   rw [hw,h.eq,k.eq,h.tk,<-rq U hle kle]
   unfold DL;rw [List.filter_append]
theorem Ps.still {s s':Aj} {m:List Tk} (U:0<=s.pos) (h1:s.pos<=s.Ay.length) (ht:s'.Ay=s.Ay) (hp:s'.pos=s.pos) (hm:DL m=[]):Ps s s' m:=⟨ht,AC,.inr ⟨U,AC⟩,by rw [hm,hp,Ng];rfl⟩
theorem Ps.step {s s':Aj} {m:List Tk} {t:Tk} (U:0<=s.pos) (h:s.Ay[s.pos.toNat]? =some t) (ht:s'.Ay=s.Ay) (hp:s'.pos=s.pos+1) (hm:DL m=DL [t]):Ps s s' m:=by
 have hl:=(List.getElem?_eq_some_iff.1 h).1
 exact ⟨ht,AC,.inr ⟨U,AC⟩,by rw [hm,hp,ru U h]⟩
theorem PA {t:Tk} (h:t.kind=16\/t.kind=17):DL [t]=[]:=by
 unfold DL qq
 rcases h with h|h<;>simp [h]
def uR (t:Tk):List Tk:=if t.kind<18 then [t] else []
theorem Y3:∀(n:Nat) (s:Aj),(∀t ∈ s.Ay,t.kind<18)->0<=s.pos->s.pos<=s.Ay.length->(DQ n s).2.2=0->Ps s (DQ n s).2.1 (uR (DQ n s).1)
 |n,s,hN,U,h1,h=>by
  have hend:∀{x:Tk×Aj×Int},x=EY s->x.2.2=0->Ps s x.2.1 (uR x.1):=λ{x} e hx=>by
   subst e
   unfold EY at hx |-
   split
   .exact .still U h1 rfl rfl rfl
   .rename_i e1
    rw [if_neg e1] at hx
    split
    .exact .still U h1 rfl rfl rfl
    .rename_i e2;rw [if_neg e2] at hx;cases hx
  cases n with
  |zero=>exact hend rfl h
  |succ n=>
   cases ht:s.Ay[s.pos.toNat]? with
   |none=>exact hend (by rw [DQ,ht]) h
   |some t=>
    have e:DQ (n+1) s=if t.kind=16/\s.wait<2 then ((Gq t s).1,(Gq t s).2,0)
     else if t.kind=16\/t.kind=17 then if (D7 t s).1.kind=0 then DQ n (D7 t s).2 else ((D7 t s).1,(D7 t s).2,0) else CL t s:=by rw [DQ,ht]
    have hl:=(List.getElem?_eq_some_iff.1 ht).1
    rw [e] at h |-
    clear e
    split
    .rename_i hk
     unfold Gq
     split
     .exact .still U h1 rfl rfl rfl
     .split
      .exact .step U ht rfl rfl (by rw [PA (.inl hk.1)];rfl)
      .exact .still U h1 rfl rfl rfl
    .rename_i hk
     rw [if_neg hk] at h
     split
     .rename_i hk2
      rw [if_pos hk2] at h
      split
      .rename_i hz
       rw [if_pos hz] at h
       rw [FB hz] at h |-
       have h3:Ps s {s with pos:=s.pos+1,wait:=0} []:=.step U ht rfl rfl (by rw [PA hk2];rfl)
       exact h3.trans (Y3 n {s with pos:=s.pos+1,wait:=0} hN (by show 0<=s.pos+1;omega) (by show s.pos+1<=(s.Ay.length:Int);omega) h)
      .rename_i hz
       unfold D7 at hz |-
       split
       .exact .still U h1 rfl rfl rfl
       .rename_i e1
        rw [if_neg e1] at hz
        split
        .exact .step U ht rfl rfl (by rw [PA hk2];rfl)
        .rename_i e2;rw [if_neg e2] at hz;exact absurd rfl hz
     .rename_i hk2
      rw [if_neg hk2] at h
      have ha:DL (uR t)=DL [t]:=by unfold uR;rw [if_pos (hN t (List.mem_of_getElem? ht))]
      unfold CL at h |-
      split
      .exact .step U ht rfl rfl ha
      .rename_i e1
       rw [if_neg e1] at h
       split
       .rename_i e2
        rw [if_pos e2] at h
        split
        .rename_i e3;rw [if_pos e3] at h;cases h
        .exact .step U ht rfl rfl ha
       .exact .step U ht rfl rfl ha
theorem eB {s:Aj} (h:LR s=true):0<=s.pos/\s.pos<=s.Ay.length:=by
 unfold LR at h
 simp only [Bool.and_eq_true,decide_eq_true_eq] at h
 omega
theorem WS {s:Aj} (hN:∀t ∈ s.Ay,t.kind<18) (h:(Ac s).2.2=0):Ps s (Ac s).2.1 (uR (Ac s).1):=by
 unfold Ac at h |-
 cases U:LR s with
 |false=>rw [U] at h;cases h
 |true=>
  rw [U,if_pos rfl] at h
  rw [if_pos rfl]
  obtain ⟨h0,h1⟩:=eB U
  exact Y3 _ s hN h0 h1 h
theorem Us {t:Tk} (h:Hf t=true):DL (uR t)=[]:=by
 unfold uR
 split
 .rename_i hk
  unfold Hf at h
  have h:t.kind=15/\(t.text=[123]\/t.text=[125]\/t.text=[59]):=by
   simp only [Bool.or_eq_true,Bool.and_eq_true,beq_iff_eq] at h
   rcases h with h|h
   .omega
   .exact ⟨h.1,by rcases h.2 with (h|h)|h<;>simp [h]⟩
  unfold DL qq vm
  rcases h with ⟨h1,U|U|U⟩<;>simp [h1,U]
 .rfl
theorem IG {f:Bool}:A7 (Ed f l)=AF l:=by unfold Ed;rw [A7,if_neg Do]
theorem Ps.words {s s':Aj} {m n:List Tk} (h:Ps s s' m) (e:DL n=DL m):Ps s s' n:=⟨h.tk,h.le,h.ok,e.trans h.eq⟩
theorem Bf.ps {s s':Aj} (h:Bf l s s'):(∀t ∈ s.Ay,t.kind<18)->Ps s s' (AF l):=by
 induction h with
 |nil s=>intro _;exact Ps.nil s
 |app _ _ U h2=>
   intro hN
   have k1:=U hN
   rw [Dg]
   exact k1.trans (h2 (by rw [k1.tk];exact hN))
 |tok U h2 h3=>
   intro hN
   rw [CO,NL]
   exact (WS hN U).words (by unfold uR;rw [if_pos h2])
 |skip U h2=>intro hN;exact (WS hN U).words (by rw [Us h2];rfl)
 |close U=>
   intro hN
   rename_i s
   unfold CY at U |-
   split
   .rename_i hc
    obtain ⟨h0,U⟩:=eB hc.1
    exact .still h0 U rfl rfl rfl
   .rename_i hc;rw [if_neg hc] at U;cases U
 |node U h2 h3 ih=>
   intro hN
   rw [CO,F7 h2]
   exact ih hN
 |block U h2 h3 ih=>
   intro hN
   rename_i f l s s'
   have k1:=WS hN U
   rw [CO,IG]
   have:=k1.trans (ih (by rw [k1.tk];exact hN))
   refine this.words ?_
   unfold DL
   rw [List.filter_append]
   have e:=Us h2
   unfold DL at e
   rw [e];rfl
mutual
theorem Hr:∀n:Nd,(A7 n).length<=n.size
 | .mk k f t l c ks=>by
   have:=IH ks
   rw [A7,Nd.size]
   split
   .rw [List.length_singleton];omega
   .omega
theorem IH:∀l:List Nd,(AF l).length<=AD l
 |[]=>Nat.le_refl _
 |n::r=>by
  have:=Hr n
  have:=IH r
  rw [AF,AD,List.length_append];omega
end
theorem qy {a:Int} (k:Int) (h:a=k) (U:k≠16/\k≠17):a≠16/\a≠17:=h ▸ U
theorem tn (s:Aj):(Ac s).1.kind≠16/\(Ac s).1.kind≠17:=by
 have U:∀s:Aj,(EY s).1.kind≠16/\(EY s).1.kind≠17:=λs=>by unfold EY;split;exact qy 21 rfl Do;split;exact qy 20 rfl Do;exact qy 0 rfl Do
 have hg:∀n (s:Aj),(DQ n s).1.kind≠16/\(DQ n s).1.kind≠17:=by
  intro n
  induction n with
  |zero=>exact U
  |succ n ih=>
   intro s
   rw [DQ]
   split
   .exact U s
   .split
    .unfold Gq XG;split;exact qy 20 rfl Do;split<;>exact qy 18 rfl Do
    .split
     .split
      .exact ih _
      .unfold D7 XG;split;exact qy 20 rfl Do;split;exact qy 19 rfl Do;exact qy 0 rfl Do
     .rename_i h;unfold CL;split;exact not_or.1 h;split;split;exact qy 0 rfl Do;exact not_or.1 h;exact not_or.1 h
 unfold Ac
 split
 .exact hg _ s
 .exact qy 0 rfl Do
theorem Bf.nk {s s':Aj} (h:Bf l s s'):∀t ∈ AF l,t.kind≠16/\t.kind≠17:=by
 induction h with
 |nil s=>intro t h;cases h
 |app _ _ U h2=>rw [Dg];intro t ht;exact (List.mem_append.1 ht).elim (U t) (h2 t)
 |tok U h2 h3=>rw [CO,NL];intro t ht;rw [List.mem_singleton.1 ht];exact tn _
 |skip U h2=>intro t h;cases h
 |close U=>intro t h;cases h
 |node U h2 h3 ih=>rw [CO,F7 h2];exact ih
 |block U h2 h3 ih=>rw [CO,IG];exact ih
def Lf (l:List Nd) (s s':Aj):Prop:=(AF l).length+4*mu s'<=4*mu s/\((∀t ∈ s.Ay,t.kind<18)->Ps s s' (AF l))/\∀t ∈ AF l,t.kind≠16/\t.kind≠17
def DvP (A:Rd Nd):Prop:=∀s,Rd.wp A s (λn s'=>Lf [n] s s') FQ
section
variable {A B C D E F:Rd Nd} {s s0 s1 s2 s':Aj} {Q:Nd->Aj->Prop} {l m:List Nd}
theorem Lf.nil (s:Aj):Lf [] s s:=⟨i6,λ_=>Ps.nil s,λt h=>by cases h⟩
theorem Lf.app (h:Lf l s s1) (k:Lf m s1 s2):Lf (l++m) s s2:=by
 unfold Lf
 rw [Dg]
 refine ⟨by have:=h.1;have:=k.1;rw [List.length_append];omega,λhN=>?_,λt ht=>(List.mem_append.1 ht).elim (h.2.2 t) (k.2.2 t)⟩
 have U:=h.2.1 hN
 exact U.trans (k.2.1 (by rw [U.tk];exact hN))
theorem Lf.Ia {m:Nd} (h:Lf [n] s s1) (k:Lf (m::l) s1 s2):Lf (n::m::l) s s2:=.app h k
theorem Lf.node {k:Int} (U:k≠1) (h:Lf l s s'):Lf [Ar k l] s s':=by
 unfold Lf
 rw [CO,F7 U];exact h
theorem Lf.of (h:Bf l s s'):Lf l s s':=⟨by have:=h.size;have:=IH l;omega,h.ps,h.nk⟩
theorem Lf.block {f:Bool} (U:Lf [] s s1) (h:Lf l s1 s'):Lf [Ed f l] s s':=by
 unfold Lf
 rw [CO,IG];exact Lf.app U h
theorem DvP.of (h:Dv A):DvP A:=λs=>Rd.wp_mono (h s) (λn s' _ h=>.of h) (λ_ _ _ _=>trivial)
end
end Go.Proofs.Z
namespace Go.Proofs.Z
open Go Go.Aw
open Rd (Ap)
def Vs:Nat->Rd Nd
 |0=>.fail Ic
 |d+1=>aS (d+1)
def uk (d:Nat):Rd Nd:=qd (Xx d) (qh d) (XF d) (KH d) (Ug d) (Vs (d - 1))
def XC (top:Rd Nd) (l:List Nd):Rd Nd:=.look λs0=>.seq top λn=>if ((n.kind==50)&&l.any λx=> !(x.kind==50))=true then .Ee s0 Ie else .ret n
def Xy (top:Rd Nd):Rd Nd:=M7 fD (XC top)
def LJ (d:Nat):Rd Nd:=Xy (uk d)
section
variable {s s0 s1:Aj} {A:Rd Nd} {l:List Nd}
theorem Lf.pass (h:Lf l s0 s) (k:Lf [] s s1):Lf l s0 s1:=by
 have:=Lf.app h k
 rwa [List.append_nil] at this
theorem bq {A B C D E F:Rd Nd} (U:Rd.A6 E):Rd.A6 (qd A B C D E F):=Rd.A6.look λs v s' h=>by
 split at h
 .rename_i hk
  rw [beq_iff_eq] at hk
  have ht:∀{v:Nd} {s':Aj},AR.run s=.inr (v,s')->mu s'<mu s:=λe=>HZ e AC
  (repeat' split at h)<;>first|exact Rd.A6.at (λ_ _ e=>ht e) h|exact U _ _ _ h
 .exact U _ _ _ h
theorem bm (d:Nat):Rd.A6 (uk d):=bq (RH (Nl _) (Vz _)).u6
end
end Go.Proofs.Z
namespace Go.Proofs.Z
open Go Go.Aw
structure yf (T:Nd->Nd->Prop):Prop where
 f1:∀{a b:Nd},T a b->mz a=mz b
 sm:∀{a b:Nd},T a b->D3 a=D3 b
 st:∀{a b:Nd},T a b->EV a=EV b
 mr:∀{a b:Nd},T a b->Gu a=Gu b
 nr:∀{a b:Nd},T a b->NP a=NP b
 cl:∀{a b:Nd},T a b->G5 a=G5 b
 ns:∀{a b:Nd},T a b->KJ a=KJ b
 df:∀{a b:Nd},T a b->(a.kids.all λn=>n.kind==36)=(b.kids.all λn=>n.kind==36)
variable {S:Sy}
theorem E7.any {T:Nd->Nd->Prop} {l m:List Nd} {p:Nd->Bool} (h:E7 T l m) (hp:∀{a b:Nd},T a b->p a=p b):l.any p=m.any p:=by
 induction h with
 |nil=>rfl
 |cons U _ ih=>rw [List.any_cons,List.any_cons,ih,hp U]
section
variable {d:Nat} {s t:Aj} {A B C D E F:Rd Nd} {n m o:Nd} {l l':List Nd}
variable (N:yf S.T)
include N
end
mutual
def Gk:Nd->Nd
 | .mk k f t _ _ ks=>.mk k f t 0 0 (DK ks)
def DK:List Nd->List Nd
 |[]=>[]
 |n::r=>Gk n::DK r
end
theorem U1:∀l:List Nd,DK l=l.map Gk
 |[]=>rfl
 |n::r=>by rw [DK,U1 r];rfl
theorem us:(Gk n).kids=n.kids.map Gk:=by cases n;rw [Gk,U1];rfl
mutual
theorem uz:∀n:Nd,(Gk n).size=n.size
 | .mk _ _ _ _ _ ks=>by rw [Gk,Nd.size,Nd.size,uzs ks]
theorem uzs:∀l:List Nd,AD (DK l)=AD l
 |[]=>rfl
 |n::r=>by rw [DK,AD,AD,uz n,uzs r]
end
end Go.Proofs.Z
namespace Go.Aw
open Go
def yY (s:List UInt8):Nat->List (Nat×Nat)->List UInt8
 |frm,[]=>s.drop frm
 |frm,p::r=>(s.take p.1).drop frm++[92,32,92]++yY s p.2 r
def zR (s:List UInt8):Sum Int (List UInt8):=if (Ci s 0).2.2≠0 then .inl (Ci s 0).2.2 else if (Ci s 0).1=0\/(Ci s 0).2.1≠s.length then .inl 50 else .inr (yY s 0 (cJ s 0))
def plF (f:Int) (t:List UInt8):List UInt8:=if f=13\/f=14 then (match zR t with| .inr u=>u| .inl _=>t) else t
end Go.Aw
namespace Go.Proofs.Z
open Go Go.Aw
mutual
def HU:Nd->Nd
 | .mk k f t _ _ ks=>if k=1 then .mk k f (plF f t) 0 0 ks else .mk k f t 0 0 (Fw ks)
def Fw:List Nd->List Nd
 |[]=>[]
 |n::r=>HU n::Fw r
end
mutual
def Fe:Nd->Nd
 | .mk k f t l c ks=>.mk k (if k=2 then 1 else f) t l c (Dr ks)
def Dr:List Nd->List Nd
 |[]=>[]
 |n::r=>Fe n::Dr r
end
mutual
def zf:Nd->List (List UInt8)
 | .mk k f t l c ks=>if k=1 then [t] else if k=2 then [[123]]++c8 true true ks++[[125]] else c8 false true ks
def c8:Bool->Bool->List Nd->List (List UInt8)
 |_,_,[]=>[]
 |b,first,n::r=>(if b=true/\first=false then [[59]] else [])++zf n++c8 b false r
end
mutual
theorem gq:∀n:Nd,Fe (Fe n)=Fe n
 | .mk k f t l c ks=>by rw [Fe,Fe,Kx ks];split<;>rfl
theorem Kx:∀l:List Nd,Dr (Dr l)=Dr l
 |[]=>rfl
 |n::r=>by rw [Dr,Dr,gq n,Kx r]
end
mutual
theorem aL:∀n:Nd,Fe (HU (Fe n))=Fe (HU n)
 | .mk k f t l c ks=>by
   rw [Fe,HU,HU]
   by_cases U:k=1
   .subst U
    simp only [Fe,Kx,if_neg (show ¬(1:Int)=2 by decide),if_true]
   .rw [if_neg U,if_neg U,Fe,Fe,M8 ks]
    split<;>rfl
theorem M8:∀l:List Nd,Dr (Fw (Dr l))=Dr (Fw l)
 |[]=>rfl
 |n::r=>by rw [Dr,Fw,Dr,Fw,Dr,aL n,M8 r]
end
mutual
theorem jS:∀n:Nd,Gk (HU (Gk n))=Gk (HU n)
 | .mk k f t l c ks=>by
   rw [Gk,HU,HU]
   by_cases U:k=1
   .rw [if_pos U,if_pos U,Gk,Gk,Px ks]
   .rw [if_neg U,if_neg U,Gk,Gk,Qf ks]
theorem Qf:∀l:List Nd,DK (Fw (DK l))=DK (Fw l)
 |[]=>rfl
 |n::r=>by rw [DK,Fw,DK,Fw,DK,jS n,Qf r]
theorem uC:∀n:Nd,Gk (Gk n)=Gk n
 | .mk k f t l c ks=>by rw [Gk,Gk,Px ks]
theorem Px:∀l:List Nd,DK (DK l)=DK l
 |[]=>rfl
 |n::r=>by rw [DK,DK,uC n,Px r]
end
mutual
theorem qk:∀n:Nd,Gk (Fe n)=Fe (Gk n)
 | .mk k f t l c ks=>by rw [Fe,Gk,Gk,Fe,TA ks]
theorem TA:∀l:List Nd,DK (Dr l)=Dr (DK l)
 |[]=>rfl
 |n::r=>by rw [Dr,DK,DK,Dr,qk n,TA r]
end
mutual
def pt:Nd->Nd->Bool
 | .mk k f t _ _ ks,b=>decide (k=b.kind)&&(decide (f=b.form)&&(t==b.text&&KW ks b.kids))
def KW:List Nd->List Nd->Bool
 |[],[]=>true
 |a::l,b::m=>pt a b&&KW l m
 |[],_::_=>false
 |_::_,[]=>false
end
mutual
theorem pw:∀a b:Nd,pt a b=true↔Gk a=Gk b
 | .mk k f t l c ks,.mk k' f' t' l' c' U=>by
   rw [pt,Gk,Gk]
   show (decide (k=k')&&(decide (f=f')&&(t==t'&&KW ks U)))=true↔_
   simp only [Bool.and_eq_true,decide_eq_true_eq,beq_iff_eq,UO ks U,Nd.mk.injEq,true_and]
theorem UO:∀l m:List Nd,KW l m=true↔DK l=DK m
 |[],[]=>by simp [KW]
 |a::l,b::m=>by rw [KW,DK,DK,Bool.and_eq_true,pw a b,UO l m,List.cons.injEq]
 |[],_::_=>by simp [KW,DK]
 |_::_,[]=>by simp [KW,DK]
end
mutual
def B4:Nd->Nat
 | .mk _ _ t _ _ ks=>t.length+BC ks
def BC:List Nd->Nat
 |[]=>0
 |n::r=>B4 n+BC r
end
theorem EE:∀{l:List Nd} {n:Nd},n ∈ l->B4 n<=BC l
 |m::r,n,h=>by
  rw [BC]
  rcases List.mem_cons.1 h with rfl|h
  .omega
  .have:=EE h;omega
theorem Rx.grow {st0 st st':St} {rows:List (AE×List Nd)} (h:Rx st0 st rows) (k:st.le st'):Rx st0 st' rows:=⟨St.le_trans h.le k,λr U=>by
 have:=h.ok r U
 obtain ⟨o,l⟩:=r
 cases o with
 |any=>exact this
 |full=>trivial
 |tok t=>exact ⟨this.1,k.2 _ _ this.2⟩,h.ap⟩
theorem tY (h:s.take (BJ s).2=s) (k:(BJ s).1=3\/(BJ s).1=4\/(BJ s).1=7\/(BJ s).1=8):Hc s=some (s.drop (U9 s).toNat):=by
 unfold Hc
 rw [if_pos h,if_pos AC]
theorem tZ (h:s.take (BJ s).2=s) (k:(BJ s).1=1\/(BJ s).1=2\/(BJ s).1=5\/(BJ s).1=6):Hc s=some s:=by
 unfold Hc
 rw [if_pos h,if_neg AC,if_pos AC]
theorem ua (h:¬s.take (BJ s).2=s):Hc s=none:=if_neg h
theorem tX (h:s.take (BJ s).2=s) (k:¬((BJ s).1=3\/(BJ s).1=4\/(BJ s).1=7\/(BJ s).1=8)) (l:¬((BJ s).1=1\/(BJ s).1=2\/(BJ s).1=5\/(BJ s).1=6)):Hc s=none:=by
 unfold Hc
 rw [if_pos h,if_neg AC,if_neg AC]
section
variable {st:St} {R:Au->St->Prop}
theorem fx (hl:s.length<=100000000) (U:∀t,Hc s=some t->∀q,R (.ret (.Bp [.str q,.str t,.int .i64 0])) st) (h2:Hc s=none->R (.ret (.Bp [.str [],.str [],.int .i64 30])) st):PC 178 [.str s] st R:=by
 have hw:=TF s
 refine pB Tryz.func178 ?_
 repeat' ((conv=>whnf);first|exact BH|(refine AA ?_;intros)|(refine BI ?_ ?_ ?_;rotate_left)|(refine AB ?_ ?_<;>intro _)|refine aj hl (λa h3 h4 h5 h6=>?_)|refine WO AC AC ?_|refine WN AC AC ?_|with_reducible refine WF ?_)
 all_goals first
  |exact fin (h2 (ua ‹_›)) rfl
  |exact fin (h2 (tX i7 AC AC)) rfl
  |exact fin (U _ (tZ i7 AC) []) rfl
  |(subst h3;exact fin (U _ (tY i7 AC) _) rfl)
theorem jJ (n:Nd):n.text.length<=B4 n:=by
 cases n
 rw [B4]
 exact Nat.le_add_right _ _
theorem DJ (n:Nd):BC n.kids<=B4 n:=by
 cases n
 rw [B4]
 exact Nat.le_add_left _ _
theorem MM:∀(l:List Nd) (k:Nat),BC (l.drop k)<=BC l
 |[],k=>by rw [List.drop_nil];exact Nat.le_refl _
 |n::r,0=>Nat.le_refl _
 |n::r,k+1=>by
  have:=MM r k
  rw [List.drop_succ_cons,BC];omega
theorem nW (U:n.kind=18/\(n.kids.length=1\/n.kids.length=3)) (hx:n.kids[n.kids.length / 2]? =some x):Je n=if x.kind=1 then (match Hc x.text with|some t=>some t|none=>if x.form=10/\x.text=[58] then some x.text else none) else none:=by
 unfold Je
 rw [if_pos U,hx]
 rfl
theorem WR (ht:B4 n<=100000000) (h1:∀t,Je n=some t->R (.ret (.Bp [.str t,.bool true])) st) (h2:Je n=none->R (.ret (.Bp [.str [],.bool false])) st):PC 137 [enc n] st R:=by
 refine pB Tryz.func137 ?_
 by_cases hk:n.kind=18/\(n.kids.length=1\/n.kids.length=3)
 .obtain ⟨x,hx⟩:∃x,n.kids[((n.kids.length:Int) / 2).toNat]? =some x:=⟨_,List.getElem?_eq_getElem AC⟩
  have hn:=nW hk (x:=x) (by rw [<-hx];rfl)
  have hxt:x.text.length<=100000000:=by
   have:=EE (List.mem_of_getElem? hx)
   have:=jJ x
   have:=DJ n
   omega
  by_cases h3:x.kind=1
  .rw [if_pos h3] at hn
   cases hs:Hc x.text with
   |some t=>
    rw [hs] at hn
    have U:∀{st:St} {R:Au->St->Prop},(∀q,R (.ret (.Bp [.str q,.str t,.int .i64 0])) st)->PC 178 [.str x.text] st R:=λh=>fx hxt (λt' e=>by rw [hs] at e;cases e;exact h) (λe=>by rw [hs] at e;cases e)
    repeat' ((conv=>whnf);first|(refine AA ?_;intros)|(refine AB ?_ ?_<;>intro _)|refine Wm hx AC ?_|refine U (λq=>?_))
    all_goals exact fin (h1 _ hn) rfl
   |none=>
    rw [hs] at hn
    have U:∀{st:St} {R:Au->St->Prop},R (.ret (.Bp [.str [],.str [],.int .i64 30])) st->PC 178 [.str x.text] st R:=λh=>fx hxt (λt' e=>by rw [hs] at e;cases e) (λ_=>h)
    repeat' ((conv=>whnf);first|(refine AA ?_;intros)|(refine AB ?_ ?_<;>intro _)|refine Wm hx AC ?_|refine U ?_)
    all_goals first
     |exact fin (h1 _ (hn.trans (if_pos ⟨FS,FS⟩))) rfl
     |exact fin (h2 (hn.trans (if_neg (λe=>by simp_all)))) rfl
  .rw [if_neg h3] at hn
   repeat' ((conv=>whnf);first|(refine AA ?_;intros)|(refine AB ?_ ?_<;>intro _)|refine Wm hx AC ?_)
   all_goals exact fin (h2 hn) rfl
 .have hn:Je n=none:=if_neg hk
  repeat' ((conv=>whnf);first|(refine AA ?_;intros)|(refine AB ?_ ?_<;>intro _)|fail)
  all_goals first|exact fin (h2 hn) rfl|(exfalso;omega)
theorem iZ (op:Bool):EA op []= !op:=by cases op<;>rfl
theorem vv (ht:BC l<=100000000) (h:R (.ret (.bool (EA true l))) st):PC 135 [.slice 6 (BL l) w] st R:=by
 refine pB Tryz.func135 ?_
 repeat' ((conv=>whnf);first|(refine AA ?_;intros)|(refine AB ?_ ?_<;>intro _)|fail)
 refine Dc (α:=Nat×Bool) (λy=>[(3,.bool y.2),(10,.int .i64 (y.1:Nat))]) [8,9] (λ_=>[]) [] (λ_=>st) (λy=>y.1<=l.length/\EA true l=EA y.2 (l.drop y.1)) (λy=>l.length - y.1) (0,true) ⟨Nat.zero_le _,rfl⟩ Yl (St.le_refl _) ?_
 rintro ⟨i,op⟩ ⟨hi,hr⟩
 dsimp only at hi hr
 by_cases U:i<l.length
 .obtain ⟨x,hx⟩:∃x,l[(i:Int).toNat]? =some x:=⟨_,List.getElem?_eq_getElem U⟩
  have hxt:B4 x<=100000000:=Nat.le_trans (EE (List.mem_of_getElem? hx)) ht
  rw [drop_at (show l[i]? =some x from hx)] at hr
  have hli:(i:Int)<(l.length:Int):=AC
  cases op with
  |true=>
   rw [EA] at hr
   repeat' ((conv=>whnf);first|refine Wv hli ?_|(refine AA ?_;intros)|(refine AB ?_ ?_<;>intro _)|refine Wm hx AC ?_|refine Wq (a:=(i:Int)+1) AC AC ?_)
   all_goals conv=>whnf
   all_goals first
    |exact ⟨(i+1,true),⟨U,by rw [hr,if_pos ‹_›]⟩,Nat.sub_lt_sub_left U (Nat.lt_succ_self i),Yl,St.le_refl _⟩
    |exact ⟨(i+1,false),⟨U,by rw [hr,if_neg ‹_›,if_neg ‹_›]⟩,Nat.sub_lt_sub_left U (Nat.lt_succ_self i),Yl,St.le_refl _⟩
    |(rw [hr,if_neg ‹_›,if_pos ‹_›] at h;exact fin h rfl)
  |false=>
   rw [EA] at hr
   repeat' ((conv=>whnf);first|refine Wv hli ?_|(refine AA ?_;intros)|(refine AB ?_ ?_<;>intro _)|refine Wm hx AC ?_|refine WR hxt (λt e=>?_) (λe=>?_)|refine Wq (a:=(i:Int)+1) AC AC ?_)
   all_goals conv=>whnf
   all_goals first
    |exact ⟨(i+1,true),⟨U,by rw [hr,e]⟩,Nat.sub_lt_sub_left U (Nat.lt_succ_self i),Yl,St.le_refl _⟩
    |(rw [hr,e] at h;exact fin h rfl)
 .rw [List.drop_of_length_le AC,iZ] at hr
  rw [hr] at h
  cases op
  all_goals (repeat' ((conv=>whnf);first|(refine AA ?_;intros)|(refine AB ?_ ?_<;>intro _)|fail))
  all_goals exact fin h rfl
end
end Go.Proofs.Z
namespace Go.Aw
open Go
section
variable {D:List Deferred} {P:Program} {T:List (Nat×Ty)} {C:FuncId->List V->St->(Au->St->Prop)->Prop} {I0 I:Mem} {st0 st:St} {w0 w:World} {β:Nat->Option Nat} {env:Env} {a:Act}
theorem S3 {J:Mem} {b:Nat}:∀{l:List V} {us:List Value} {o:Nat},Ao I l us->I.le J->(∀j c,us[j]? =some c->J.cell b (o+j)=some c)->CV J b o l
 |[],us,o,h,hl,U=>trivial
 |v::r,us,o,h,hl,U=>by
  simp only [Ao] at h
  obtain ⟨c,s,rfl,h1,h2⟩:=h
  exact ⟨⟨c,U 0 c rfl,AM.mono hl _ _ h1⟩,S3 h2 hl λj c e=>by rw [show o+1+j=o+(j+1) by omega];exact U (j+1) c (by simpa using e)⟩
theorem Qs {c:Code} {env:Env} {st:St} (t id:Nat) (ht:env.get t=.BO id 0) (hb:assoc env.boxes id=some cs) (hn:NV cs=true)
 (h:AW P c Q {env with tmps:=(t,.Gi cs 0)::JH id env.tmps,boxes:=Ib id env.boxes} st):AW P c Q env st:=
 Me t id ht hb hn λb hf D I0 st0 w0 I β a w hr=>by
  obtain ⟨vs,hv,hl,hr'⟩:=hr.freeze (b:=b) (cs:=cs) (by simp [St.Aa])
  refine h D I0 st0 w0 _ β a w (Rel.Hs ⟨hr'.fr,hr'.s,{hr'.f with tmps:=?_}⟩ (St.bR hf.1))
  intro t' v e
  have h0:=λv e=>hr'.f.tmps t' v e
  have h1:=hr.f.tmps t (.ptr b 0) (by rw [Bk];simp)
  rw [Bk] at e
  cases U:Nat.beq t t' with
  |true=>
   rw [U] at e
   have:=Nat.eq_of_beq_eq_true U
   subst this
   simp only [cond_true,Option.some.injEq] at e
   subst e
   have h2:AM I (.ptr b 0) (a.tmps.getD t undef):=h1
   refine A2.of ?_
   simp only [AM] at h2 |-
   exact ⟨b,0,h2,S3 hv hl λj c e=>by
    have:=Mem.Mi (I:=I) (b:=b) (h:=0) (n:=vs.length) e
    simp_all⟩
  |false=>
   rw [U] at e
   exact h0 v (by rw [Bk,U];exact e)
theorem nQ (hM:∀f args st (R R':Au->St->Prop),(∀r s,R r s->R' r s)->C f args st R->C f args st R')
 (hm:Kk sched all=true)
 (h:F9 T C all sched L (Bl (L.map some) env.boxes) Q sched env st):
 (∀(bs:List Bool) (e:Env) (st1:St) (i:Nat) (o:Oper),bs.length=all.length->LN T C all sched st L (Bl (L.map some) env.boxes) Q env bs e st1->all[i]? =some o->BG all bs i=true->
   Bi all o e (Gj T C o e st1 (λv env' st'=>env'.go o.dst v λenv''=>LN T C all sched st L (Bl (L.map some) env.boxes) Q env (bs.set i true) env'' st') (λx _ s=>∀e',Q x e' s)) (e.go o.dst (.Bp []) λenv'=>LN T C all sched st L (Bl (L.map some) env.boxes) Q env (bs.set i true) env' st1))/\
 (∀(bs:List Bool) (e:Env) (st1:St),bs.length=all.length->LN T C all sched st L (Bl (L.map some) env.boxes) Q env bs e st1->bs=List.replicate all.length true\/∃j,j<all.length/\BG all bs j=true)/\
 (∀(e:Env) (st1:St),LN T C all sched st L (Bl (L.map some) env.boxes) Q env (List.replicate all.length true) e st1->∃env',(e.eqv env'/\env'.boxes=e.boxes/\env'.gl=e.gl)/\Q .normal env' st1)/\
 LN T C all sched st L (Bl (L.map some) env.boxes) Q env (List.replicate all.length false) env st:=by
 have M:=Q9.of hm
 have hb0:∀id cs,assoc (Bl (L.map some) env.boxes) id=some cs->assoc env.boxes id=some cs/\id ∉ L:=λid cs e=>by
  obtain ⟨h1,h2⟩:=HH e
  simp_all
 have hget:∀bs:List Bool,∀j,j<bs.length->bs.getD j true=bs.getD j false:=λbs j hj=>by simp_all
 have ready:∀{bs:List Bool} {i:Nat} {o:Oper},all[i]? =some o->bs.length=all.length->BG all bs i=true->bs.getD i false=false/\∀x ∈ o.after,Region.binds .any x=true->bs.getD x.on false=true:=by
  intro bs i o ho hb hrd
  have hi:i<bs.length:=by rw [hb];exact (List.getElem?_eq_some_iff.1 ho).1
  unfold BG at hrd
  rw [ho,hget bs i hi] at hrd
  simp only [Bool.and_eq_true,Bool.not_eq_true',List.all_eq_true] at hrd
  refine ⟨hrd.1,λx hx hb=>?_⟩
  have:=hrd.2 x i7
  rw [hb] at this
  simpa using this
 have listed:∀{bs:List Bool},(∀i o,all[i]? =some o->bs.getD i false=true->∀x ∈ o.after,Region.binds .any x=true->bs.getD x.on false=true)->
  ∀(n:Nat) {i j:Nat} {o:Oper},reaches all n i j=true->all[i]? =some o->(∀x ∈ o.after,Region.binds .any x=true->bs.getD x.on false=true)->bs.getD j false=true:=by
  intro bs cl n
  induction n with
  |zero=>intro i j o h;cases h
  |succ n ih=>
   intro i j o h ho ha
   rw [reaches,ho] at h
   simp only [Bool.or_eq_true,List.any_eq_true,Bool.and_eq_true] at h
   rcases h with ⟨x,h1,h2,h3⟩|⟨x,h1,⟨h2,h3⟩,h4⟩
   .have:=Nat.eq_of_beq_eq_true h3
    grind
   .have hx:=ha x i7 h2
    cases hp:all[x.on]? with
    |none=>
     cases n with
     |zero=>cases h4
     |succ n=>rw [reaches,hp] at h4;cases h4
    |some p=>grind
 refine ⟨?_,?_,?_,?_⟩
 .intro bs e st1 i o hbl hinv ho hrd
  obtain ⟨vs,pre,post,Ef,F,hh⟩:=hinv
  obtain ⟨hbi,haft⟩:=ready ho hbl hrd
  have hil:i<bs.length:=by rw [hbl];exact (List.getElem?_eq_some_iff.1 ho).1
  have Ch:∀{Dd:List (Nat×Bool)} {q:Bool} {r:List (Nat×Bool)},sched=Dd++(i,q)::r->∀t ∈ Oper.Ch all o,assoc e.tmps t=G1 all env.tmps vs (λk=>decide (k ∈ Dd.map (·.1))) t:=by
   intro Dd q r hs t ht
   rw [F.tm]
   refine CT λk p hk hd=>⟨?_,λ_=>rfl⟩
   rcases Nat.lt_trichotomy k i with hki|rfl|hki
   .have h1:=M.lo i k o p t ho hk hd ht hki
    have h2:=listed F.cl _ h1 ho haft
    have h3:=M.ahead _ h1 _ _ _ hs
    grind
   .show bs.getD k false=decide (k ∈ Dd.map (·.1))
    rw [hbi,decide_eq_false (M.nodup _ _ _ _ hs)]
   .have h1:=M.hi i k o p t ho hk hd ht hki
    show bs.getD k false=decide (k ∈ Dd.map (·.1))
    have h2:bs.getD k false=false:=by
     cases hb:bs.getD k false with
     |false=>rfl
     |true=>have:=listed F.cl _ h1 hk (F.cl k p hk hb);grind
    have h3:k ∉ Dd.map (·.1):=λhm=>by
     obtain ⟨x,hx,hxe⟩:=List.mem_map.1 hm
     obtain ⟨pa,ra,ea⟩:=List.append_of_mem hx
     have h4:=M.ahead _ h1 pa x.2 (ra++(i,q)::r) (by grind)
     exact M.nodup _ _ _ _ hs (by grind)
    grind
  have cl':∀k p,all[k]? =some p->(bs.set i true).getD k false=true->∀x ∈ p.after,Region.binds .any x=true->(bs.set i true).getD x.on false=true:=by
   intro k p hp hk x hx hb
   rw [Fj hil] at hk |-
   split
   .rfl
   .split at hk
    .grind
    .exact F.cl k p hp hk x hx hb
  by_cases hmem:i ∈ pre.map (·.1)
  . 
   obtain ⟨⟨i',q⟩,hx,rfl⟩:=List.mem_map.1 hmem
   obtain ⟨Dd,r,epre⟩:=List.append_of_mem hx
   cases q with
   |false=>have:=F.lT _ hx;grind
   |true=>
    have hs:sched=Dd++(i',true)::(r++post):=by rw [F.split,epre];simp
    obtain ⟨hd,hy⟩:=F.hy Dd i' r o epre ho
    have hy:=hy e (Ch hs) F.n2 F.s2 F.g2
    obtain ⟨o',ho',U⟩:=M.kind _ _ _ _ hs
    have ho2:all[i']? =some o:=ho
    rw [ho2] at ho'
    cases ho'
    have U:Fo o.op=true:=U
    have hqk:BT o.op=true:=by
     revert U
     cases o.op<;>simp [Fo,BT]
    have step:e.go o.dst (vs i') (λe'=>LN T C all sched st L (Bl (L.map some) env.boxes) Q env (bs.set i' true) e' st1):=by
     refine PM (λt ht=>by rw [F.s2];grind) ⟨vs,pre,post,Ef,⟨F.split,λj hj=>?_,λj hj=>?_,F.boxes,F.n1,F.n2,F.s1,F.s2,F.g1,F.g2,λt=>?_,F.tf,F.bx,F.go,F.x7,F.sr,F.hy,cl'⟩,hh⟩
     .rw [Fj hil] at hj
      split at hj
      .grind
      .exact F.sub j hj
     .rw [Fj hil]
      split
      .rfl
      .exact F.lT j hj
     .have:=Gz (S:=λj=>bs.getD j false) (S':=λj=>(bs.set i' true).getD j false) (v:=vs i') M.dst ho F.tm (λj hj=>by grind) (by grind) t
      refine this.trans (CT λk p _ _=>⟨rfl,λ_=>?_⟩)
      unfold Pw
      grind
    refine F5 (λx=>?_) (λx=>?_) hy
    .have hbx:GC sched all i'=true->e.boxes=env.boxes:=λhe=>F.sr λk ok hk hok=>by
      unfold GC at he
      have h1:=List.all_eq_true.1 he (k,false) (by grind)
      simp only [Bool.false_or,hok] at h1
      cases hst:Da ok.op with
      |false=>rfl
      |true=>
       rw [hst] at h1
       simp only [Bool.not_true,Bool.false_or] at h1
       have:=listed F.cl _ h1 hok (F.cl k ok hok (F.lT k hk))
       grind
     rcases x with x|⟨he,x⟩|⟨he,x⟩
     .unfold Br at x
      refine C5 (T:=T) (C:=C) (env:=e.only (Bl (L.map some) env.boxes) (Oper.Ch all o)) (env':=e) (st:=Kl) (st':=st1) hM hqk (.inr ⟨U,λ_=>rfl⟩) (Gw λt _=>rfl) F.bx (λv s s' g k=>?_) (λ_ _ k=>k.elim) x
      grind
     .have hini:st1=st:=F.x7 λk hk=>by
       unfold HI at he
       have h1:=List.all_eq_true.1 he (k,false) (by grind)
       simp only [Bool.false_or] at h1
       have h2:=F.lT k hk
       cases hp:all[k]? with
       |none=>
        grind
       |some p=>
        have:=listed F.cl _ h1 hp (F.cl k p hp h2)
        grind
      subst hini
      unfold Br at x
      have hb:=hbx (KE he)
      refine C5 (T:=T) (C:=C) (env:=e.only env.boxes (Oper.Ch all o)) (env':=e) (st:=st1) (st':=st1) hM hqk (.inl rfl) (Gw λt _=>rfl) (λid cs h=>by rw [hb];exact h) (λv s s' g k=>?_) (λ_ _ k=>k.elim) x
      grind
     .unfold Br at x
      have hb:=hbx he
      refine C5 (T:=T) (C:=C) (env:=e.only env.boxes (Oper.Ch all o)) (env':=e) (st:=Kl) (st':=st1) hM hqk (.inr ⟨U,λ_=>rfl⟩) (Gw λt _=>rfl) (λid cs h=>by rw [hb];exact h) (λv s s' g k=>?_) (λ_ _ k=>k.elim) x
      grind
    grind
  . 
   obtain ⟨x,hx,rfl⟩:=List.mem_map.1 (M.cover i (List.getElem?_eq_some_iff.1 ho).1)
   rw [F.split] at hx
   have hxp:x ∈ post:=by
    rcases List.mem_append.1 hx with g|g
    .grind
    .exact g
   cases post with
   |nil=>cases hxp
   |cons p r=>
    obtain ⟨k,q⟩:=p
    have hq:q=false:=hh _ _ rfl
    subst hq
    have hxe:x=(k,false):=by
     rcases List.mem_cons.1 hxp with g|g
     .exact g
     .have h1:=M.chain pre k r F.split x g
      have h2:=listed F.cl _ h1 ho haft
      exact absurd (F.sub k h2) (M.nodup _ _ _ _ F.split)
    subst hxe
    have ho:all[k]? =some o:=ho
    have hbi:bs.getD k false=false:=hbi
    have hil:k<bs.length:=hil
    have hmem:k ∉ pre.map (·.1):=hmem
    have hgo:=F.go
    rw [ME] at hgo
    simp only [ho] at hgo
    have ag:∀t ∈ Oper.Ch all o,assoc Ef.tmps t=assoc e.tmps t:=λt ht=>by rw [F.tf,Ch F.split t ht]
    have hag:=HJ (all:=all) (o:=o) ag
    have next:∀(v:V) (s:St) (B:List (Nat×List V)),(∀id cs,assoc (Bl (L.map some) env.boxes) id=some cs->assoc B id=some cs)->(Da o.op=false->B=e.boxes)->
     Env.go {Ef with boxes:=B} o.dst v (λenv'=>F9 T C all sched L (Bl (L.map some) env.boxes) Q r env' s)->
     Env.go {e with boxes:=B} o.dst v (λe'=>LN T C all sched st L (Bl (L.map some) env.boxes) Q env (bs.set k true) e' s):=by
     intro v s B hB hBe hk
     obtain ⟨hd,hk⟩:=HN hk
     have hd:∀t,o.dst=some t->t<Ef.sz:=hd
     have hmp:∀j,j≠k->(j ∈ (pre++[(k,false)]).map (·.1)↔j ∈ pre.map (·.1)):=λj hj=>by simp [hj]
     refine PM (λt ht=>by show t<e.sz;rw [F.s2,<-F.s1];grind) (KP M r (Pw vs k v) (pre++[(k,false)]) {Ef with boxes:=B,tmps:=Qr Ef.tmps o.dst v} ⟨by rw [F.split];simp,λj hj=>?_,λj hj=>?_,rfl,F.n1,F.n2,F.s1,F.s2,F.g1,F.g2,λt=>?_,λt=>?_,hB,hk,λhk=>absurd (List.mem_append_right _ List.mem_cons_self) (hk k),λhk=>(hBe (hk k o (List.mem_append_right _ List.mem_cons_self) ho)).trans (F.sr λk o hm ho=>hk k o (List.mem_append_left _ hm) ho),λDd j r' o' hs ho'=>?_,cl'⟩)
     .rw [Fj hil] at hj
      rw [List.map_append]
      split at hj
      .grind
      .exact List.mem_append_left _ (F.sub j hj)
     .rw [Fj hil]
      split
      .rfl
      .rename_i hne
       rcases List.mem_append.1 hj with g|g
       .exact F.lT j g
       grind
     .exact Gz (S:=λj=>bs.getD j false) (S':=λj=>(bs.set k true).getD j false) M.dst ho F.tm (λj hj=>by grind) (by grind) t
     .exact Gz (S':=λj=>decide (j ∈ (pre++[(k,false)]).map (·.1))) M.dst ho F.tf (λj hj=>by grind) GT t
     .rcases MJ hs with ⟨rfl,e2⟩|⟨r2,e2⟩
      .cases e2
      .have hj:=F.hy Dd j r2 o' e2 ho'
       refine hj.Pw (λe=>?_) (λhm=>hmem ?_)
       .grind
       grind
    have heE:∀(E:Env),{E with boxes:=E.boxes}=E:=λE=>rfl
    refine GM ag (F5 (λx=>?_) (λx=>?_) hgo)
    .obtain ⟨x1,x⟩:=As.1 x
     obtain ⟨o',ho',U⟩:=M.kind _ _ _ _ F.split
     rw [ho] at ho'
     cases ho'
     have U:(BT o.op||Da o.op)=true:=U
     cases hqk:BT o.op with
     |true=>
      refine C5 (T:=T) (C:=C) (env:=Ef) (env':=e) (st:=st1) (st':=st1) hM hqk (.inl rfl) hag (λid cs hb=>by rw [<-F.boxes];exact hb) (λv s s' g hk=>?_) (λv s hk=>hk) x
      have:s'=s:=by rcases g with ⟨_,g⟩|⟨g1,g2⟩;exact g;rw [g1,g2]
      subst this
      have:=next v s' e.boxes F.bx (λ_=>rfl) (by rw [<-F.boxes];exact hk)
      omega
     |false=>
      rw [hqk] at U
      have hst:Da o.op=true:=by simpa using U
      cases hop:o.op with
      |store t p y=>
       refine K5 (T:=T) (C:=C) hop x1 hag F.boxes (by rw [F.n1,F.n2]) (by rw [F.s1,F.s2]) (by rw [F.g1,F.g2]) (λs B hB hk=>?_) x
       refine next .BE s B (λid cs hb=>?_) (λh=>by grind) hk
       obtain ⟨_,h2⟩:=hb0 id cs hb
       exact hB id cs h2 (by rw [F.boxes];exact F.bx id cs hb)
      |_=>rw [hop] at hst;cases hst
    .have:=next (.Bp []) st1 e.boxes F.bx (λ_=>rfl) (by rw [<-F.boxes];exact x)
     omega
 .intro bs e st hbl hinv
  obtain ⟨vs,pre,post,Ef,F,hh⟩:=hinv
  by_cases hall:∀p ∈ sched,bs.getD p.1 false=true
  .left
   rw [List.eq_replicate_iff]
   refine ⟨hbl,λb hb=>?_⟩
   obtain ⟨j,hj,rfl⟩:=List.mem_iff_getElem.1 hb
   obtain ⟨p,hp,e⟩:=List.mem_map.1 (M.cover j AC)
   grind
  .right
   have hex:∃pr p po,sched=pr++p::po/\bs.getD p.1 false=false/\∀x ∈ pr,bs.getD x.1 false=true:=by
    clear F hh
    revert hall
    generalize sched=l
    intro hall
    induction l with
    |nil=>grind
    |cons x l ih=>
     cases hb:bs.getD x.1 false with
     |false=>exact ⟨[],x,l,rfl,hb,λy hy=>by cases hy⟩
     |true=>
      obtain ⟨pr,p,po,h1,h2,h3⟩:=ih λh=>hall λp hp=>by grind
      grind
   obtain ⟨pr,⟨k,q⟩,po,h1,h2,h3⟩:=hex
   obtain ⟨o,ho,_⟩:=M.kind _ _ _ _ h1
   have hk:k<all.length:=(List.getElem?_eq_some_iff.1 ho).1
   refine ⟨k,hk,?_⟩
   unfold BG
   rw [ho,hget bs k AC,h2]
   simp only [Bool.not_false,Bool.true_and,List.all_eq_true]
   intro x hx
   cases hb:Region.binds .any x with
   |false=>rfl
   |true=>
    obtain ⟨y,hy,e⟩:=List.mem_map.1 (M.back _ _ _ _ o h1 ho x (by grind) hb)
    grind
 .intro e st hinv
  obtain ⟨vs,pre,post,Ef,F,hh⟩:=hinv
  have hp:post=[]:=by
   cases post with
   |nil=>rfl
   |cons p r=>
    obtain ⟨o,ho,_⟩:=M.kind _ _ _ _ F.split
    have:=F.sub p.1 (by grind)
    exact absurd this (M.nodup _ _ _ _ F.split)
  subst hp
  refine ⟨Ef,⟨⟨λt=>?_,λt=>by rw [F.boxes],by rw [F.n1,F.n2],by rw [F.s1,F.s2]⟩,F.boxes,by rw [F.g1,F.g2]⟩,F.go⟩
  rw [F.tm,F.tf]
  refine CT λk p hk _=>⟨?_,λ_=>rfl⟩
  have hlt:=(List.getElem?_eq_some_iff.1 hk).1
  have h1:(List.replicate all.length true).getD k false=true:=by rw [List.getD_eq_getElem?_getD,List.getElem?_replicate,if_pos hlt];rfl
  show (List.replicate all.length true).getD k false=decide (k ∈ pre.map (·.1))
  rw [h1,decide_eq_true (F.sub k h1)]
 .have hf:∀j,(List.replicate all.length false).getD j false=false:=λj=>by grind
  have h0:∀(vs:Nat->V) t,G1 all env.tmps vs (λj=>(List.replicate all.length false).getD j false) t=assoc env.tmps t:=λvs t=>by
   unfold G1;grind
  refine KP M sched (λ_=>.BE) [] env ⟨rfl,λj hj=>(by grind),λj hj=>(by cases hj),rfl,rfl,rfl,rfl,rfl,rfl,rfl,λt=>(h0 _ t).symm,λt=>?_,λid cs hb=>(hb0 id cs hb).1,h,λ_=>rfl,λ_=>rfl,λDd j r o e=>(by cases Dd<;>cases e),λi o ho hi=>(by grind)⟩
  unfold G1
  grind
def Qv (A:List Oper) (U os:Oper) (t:Nat):Bool:=
 U.after.toList.isEmpty&&(U.guard.isNone&&(os.guard.isNone&&(Da os.op&&(A.all (λo=>o.guard.isNone&&(BT o.op&&(!(o.dst==some t)&&(!((Oper.Ch A o).contains t)&&o.after.toList.all λe=>Nat.blt e.on A.length))))&&
  ((List.range (A.length+1)).all (λi=>os.after.toList.any λe=>Nat.beq e.on i&&Region.binds .any e)&&os.after.toList.all λe=>Nat.ble e.on A.length)))))
def Va (T:List (Nat×Ty)) (C:FuncId->List V->St->(Au->St->Prop)->Prop) (U os:Oper) (Q:AG->Env->St->Prop) (x:AG) (e:Env) (s:St):Prop:=match x with
 | .normal=>Gj T C U e s (λv e s=>e.go U.dst v λe=>Gj T C os e s (λv e s=>e.go os.dst v λe=>Q .normal e s) (λx _ s=>∀e',Q x e' s)) (λ_ _ _=>True)
 |x=>∀e',Q x e' s
structure xY (t:Nat) (z:List V) (e0 e:Env):Prop where
 boxes:e.boxes=(e0.Bs,z)::e0.boxes
 Bs:e.Bs=e0.Bs+1
 sz:e.sz=e0.sz
 gl:e.gl=e0.gl
 tm:∀s,assoc e.tmps s=if s=t then some (.BO e0.Bs 0) else assoc e0.tmps s
def zz (I:List Bool->Env->St->Prop) (n t:Nat) (z:List V) (Q:AG->Env->St->Prop) (bs:List Bool) (e:Env) (s:St):Prop:=∃U x y,bs=U++[x,y]/\U.length=n/\
 ((x=false/\y=false/\I U e s)\/(x=true/\y=false/\∃e0,I U e0 s/\xY t z e0 e)\/(x=true/\y=true/\U=List.replicate n true/\∃env',e.eqv env'/\Q .normal env' s))
theorem I8 {l r:List Bool} {d:Bool} (h:i<l.length):(l++r).getD i d=l.getD i d:=by
 rw [List.getD_eq_getElem?_getD,List.getD_eq_getElem?_getD,List.getElem?_append_left h]
theorem xY.get {t:Nat} {z:List V} {e0 e:Env} (h:xY t z e0 e) {s:Nat} (U:s≠t):e0.get s=e.get s:=by
 unfold Env.get
 rw [h.tm,if_neg U]
theorem xY.go {z:List V} {e0 e:Env} (h:xY t z e0 e) {d:Option Nat} (hd:d≠some t) (v:V):xY t z {e0 with tmps:=Qr e0.tmps d v} {e with tmps:=Qr e.tmps d v}:=
 ⟨h.boxes,h.Bs,h.sz,h.gl,λs=>by
   show assoc (Qr e.tmps d v) s=if s=t then some (.BO e0.Bs 0) else assoc (Qr e0.tmps d v) s
   rw [Ea,Ea,h.tm]
   by_cases U:d=some s
   .rw [if_pos U,if_pos U,if_neg (λe=>hd (by rw [U,e]))]
   .rw [if_neg U,if_neg U]⟩
theorem LN.facts {sti:St} {b0:List (Nat×List V)} {U:Env} {bs:List Bool} {e:Env} {st:St} (hq:∀(k:Nat) (o:Oper),all[k]? =some o->Da o.op=false) (h:LN T C all sched sti L b0 Q U bs e st):
 e.Bs=U.Bs/\e.sz=U.sz/\e.gl=U.gl/\e.boxes=U.boxes:=by
 obtain ⟨vs,pre,post,Ef,F,_⟩:=h
 exact ⟨F.n2,F.s2,F.g2,F.sr λk o _ ho=>hq k o ho⟩
theorem TW {o:Op} (h:BT o=true):Da o=false:=by
 cases o<;>first|rfl|cases h
theorem kA {U:Oper} {e:Env} {s:St} {K:V->Env->St->Prop} {z:Ty} (ho:U.op=.alloc ty) (hz:assoc T ty=some z):Gj T C U e s K Q=JO e s U.dst z.zero.cells K:=by
 simp only [Gj,ho,hz]
theorem XT (hT:G4 P T) (hC:∀f args st R,C f args st R->CE P f args st R/\Plain P f) (hM:∀f args st (R R':Au->St->Prop),(∀r s,R r s->R' r s)->C f args st R->C f args st R')
 {A:List Oper} {oa os:Oper} {z:Ty} (hm:Kk sched A=true) (hk:Qv A oa os t=true) (ho:oa.op=.alloc ty) (hd:oa.dst=some t) (hz:assoc T ty=some z) (hts:t<env.sz) (hgl:env.Qk (some t)=false)
 (h:F9 T C A sched L (Bl (L.map some) env.boxes) (Va T C oa os Q) sched env st) (hr:Rel D I0 st0 w0 I β env st a w):
 wpAny P .any (A++[oa,os]).toArray (Ca D I0 st0 w0 Q) (A++[oa,os]).toArray.size (Array.replicate (A++[oa,os]).toArray.size false) a {w with drawn:=w.drawn+1}:=by
 obtain ⟨step,live,fin,start⟩:=nQ (T:=T) (C:=C) hM hm h
 have hr:=hr.HO (Et.drew w)
 generalize hI:LN T C A sched st L (Bl (L.map some) env.boxes) (Va T C oa os Q) env=I0' at step live fin start
 unfold Qv at hk
 simp only [Bool.and_eq_true,List.all_eq_true,List.any_eq_true,List.mem_range,Bool.not_eq_true'] at hk
 obtain ⟨k1,k2,k3,k4,k5,k6,k7⟩:=hk
 have hAo:∀(i:Nat) (o:Oper),A[i]? =some o->o.guard=none/\BT o.op=true/\o.dst≠some t/\t ∉ Oper.Ch A o/\∀e ∈ o.after.toList,e.on<A.length:=λi o hi=>by
  obtain ⟨h1,h2,h3,h4,h5⟩:=k5 o (List.mem_of_getElem? hi)
  refine ⟨by simpa using h1,h2,by simpa using h3,by simpa using h4,λe he=>?_⟩
  have:=h5 e he
  rw [Nat.blt_eq] at this;exact this
 have facts:∀{bs e s},I0' bs e s->e.Bs=env.Bs/\e.sz=env.sz/\e.gl=env.gl/\e.boxes=env.boxes:=λ{bs e s} hi=>by
  rw [<-hI] at hi
  exact LN.facts (λk o ho=>TW (hAo k o ho).2.1) hi
 have fresh:assoc env.boxes env.Bs=none:=by
  cases e:assoc env.boxes env.Bs with
  |none=>rfl
  |some cs=>
   obtain ⟨b,hb,_⟩:=hr.f.box _ _ e
   exact absurd (hr.f.Bs _ _ hb) (Nat.lt_irrefl _)
 have hga:oa.guard=none:=by simpa using k2
 have hgs:os.guard=none:=by simpa using k3
 have hla:(A++[oa,os]).length=A.length+2:=GT
 refine dr hT hC (Inv:=zz I0' A.length t z.zero.cells Q) ?_ ?_ ?_ _ (List.replicate (A++[oa,os]).length false) _ _ β env st _ _ GT GT GT ?_ hr
 .rintro bs e s i o hbl ⟨bA,x,y,rfl,hlen,U⟩ hio hrd
  have rdA:i<A.length->BG A bA i=true:=λhi=>by
   rw [List.getElem?_append_left hi] at hio
   unfold BG at hrd |-
   rw [List.getElem?_append_left hi,hio] at hrd
   rw [hio]
   rw [I8 AC] at hrd
   simp only [Bool.and_eq_true,List.all_eq_true] at hrd |-
   refine ⟨hrd.1,λe he=>?_⟩
   have:=hrd.2 e he
   rwa [I8 (by rw [hlen];exact (hAo i o hio).2.2.2.2 e he)] at this
  rcases Nat.lt_trichotomy i A.length with hi|rfl|hi
  .have hrA:=rdA hi
   rw [List.getElem?_append_left hi] at hio
   obtain ⟨g1,g2,g3,g4,g5⟩:=hAo i o hio
   have hset:∀x y,(bA++[x,y]).set i true=bA.set i true++[x,y]:=λx y=>List.set_append_left _ _ AC
   have hls:(bA.set i true).length=A.length:=by simpa using hlen
   unfold Bi
   rw [g1]
   rcases U with ⟨rfl,rfl,U⟩|⟨rfl,rfl,e0,U,ha⟩|⟨rfl,rfl,U,_⟩
   .have:=step bA e s i o hlen U hio hrA
    unfold Bi at this
    rw [g1] at this
    refine C5 (env:=e) (env':=e) (st:=s) (st':=s) hM g2 (.inl rfl) (λ_ _=>rfl) (λid cs h=>h) (λv s1 s2 g k=>?_) (λv s1 k=>k e e) this
    have hs:s2=s1:=by rcases g with ⟨_,g⟩|⟨g1,g2⟩;exact g;rw [g1,g2]
    subst hs
    obtain ⟨q1,q2⟩:=HN k
    exact PM q1 ⟨bA.set i true,false,false,hset _ _,hls,.inl ⟨rfl,rfl,q2⟩⟩
   .have:=step bA e0 s i o hlen U hio hrA
    unfold Bi at this
    rw [g1] at this
    have hf:=facts U
    refine C5 (env:=e0) (env':=e) (st:=s) (st':=s) hM g2 (.inl rfl) (λx hx=>?_) (λid cs h=>?_) (λv s1 s2 g k=>?_) (λv s1 k=>k e e) this
    .cases x with
     |tmp t'=>
      refine ha.get λe=>g4 ?_
      subst e
      exact List.mem_append.2 (.inl (List.mem_filterMap.2 ⟨.tmp t',hx,rfl⟩))
     |const v=>rfl
     |func f=>rfl
     |global g=>rfl
    .rw [ha.boxes,Bk]
     cases hb:Nat.beq e0.Bs id with
     |false=>exact h
     |true=>
      have:=Nat.eq_of_beq_eq_true hb
      subst this
      rw [hf.2.2.2,hf.1,fresh] at h
      cases h
    .have hs:s2=s1:=by rcases g with ⟨_,g⟩|⟨g1,g2⟩;exact g;rw [g1,g2]
     subst hs
     obtain ⟨q1,q2⟩:=HN k
     exact PM (λt' ht'=>by rw [ha.sz];exact q1 t' ht') ⟨bA.set i true,true,false,hset _ _,hls,.inr (.inl ⟨rfl,rfl,_,q2,ha.go g3 v⟩)⟩
   .unfold BG at hrA
    rw [U,List.getD_eq_getElem?_getD,List.getElem?_replicate,if_pos hi] at hrA
    simp at hrA
  .have hoo:o=oa:=by
    rw [List.getElem?_append_right (Nat.le_refl _),Nat.sub_self] at hio
    simpa using hio.symm
   subst hoo
   have hx:x=false:=by
    unfold BG at hrd
    rw [List.getD_eq_getElem?_getD,List.getElem?_append_right AC,hlen,Nat.sub_self] at hrd
    cases x with
    |false=>rfl
    |true=>simp at hrd
   subst hx
   rcases U with ⟨_,rfl,U⟩|⟨U,_⟩|⟨U,_⟩
   .have hf:=facts U
    unfold Bi
    rw [hga]
    have hg2:e.Qk o.dst=false:=by
     rw [hd]
     unfold Env.Qk at hgl |-
     rw [hf.2.2.1];exact hgl
    simp only [Gj,ho,hz]
    unfold JO
    rw [hg2]
    refine A9.2 ?_
    refine PM (λt' ht'=>?_) ⟨bA,true,false,?_,hlen,.inr (.inl ⟨rfl,rfl,e,U,⟨rfl,rfl,rfl,rfl,λs'=>?_⟩⟩)⟩
    .rw [hd] at ht'
     cases ht'
     show t<e.sz
     rw [hf.2.1];exact hts
    .rw [List.set_append_right _ _ AC,hlen,Nat.sub_self];rfl
    .show assoc (Qr e.tmps o.dst (.BO e.Bs 0)) s'=_
     rw [Ea,hd]
     by_cases h1:s'=t
     .rw [if_pos (by rw [h1]),if_pos h1]
     .rw [if_neg (λe=>h1 (Option.some.inj e).symm),if_neg h1]
   .cases U
   .cases U
  .have hi2:i=A.length+1:=by
    have:=(List.getElem?_eq_some_iff.1 hio).1
    omega
   subst hi2
   have hoo:o=os:=by
    rw [List.getElem?_append_right AC,show A.length+1 - A.length=1 by omega] at hio
    simpa using hio.symm
   subst hoo
   unfold BG at hrd
   rw [hio] at hrd
   simp only [Bool.and_eq_true,List.all_eq_true,Bool.not_eq_true'] at hrd
   obtain ⟨r1,r2⟩:=hrd
   have hon:∀j,j<A.length+1->(bA++[x,y]).getD j false=true:=λj hj=>by
    obtain ⟨e',he',hb⟩:=k6 j hj
    have h1:=r2 e' he'
    rw [Nat.eq_of_beq_eq_true hb.1,hb.2] at h1
    simpa using h1
   have hy:y=false:=by
    rw [List.getD_eq_getElem?_getD,List.getElem?_append_right AC,hlen,show A.length+1 - A.length=1 by omega] at r1
    simpa using r1
   have hx:x=true:=by
    have:=hon A.length AC
    rw [List.getD_eq_getElem?_getD,List.getElem?_append_right AC,hlen,Nat.sub_self] at this
    simpa using this
   have hbA:bA=List.replicate A.length true:=by
    rw [List.eq_replicate_iff]
    refine ⟨hlen,λb hb=>?_⟩
    obtain ⟨j,hj,rfl⟩:=List.mem_iff_getElem.1 hb
    have:=hon j AC
    rw [I8 hj,List.getD_eq_getElem?_getD,List.getElem?_eq_getElem hj] at this
    simpa using this
   subst hy;subst hx
   rcases U with ⟨U,_⟩|⟨_,_,e0,U,ha⟩|⟨_,U,_⟩
   .cases U
   .rw [hbA] at U
    obtain ⟨env',⟨q1,q2,q3⟩,q4⟩:=fin e0 s U
    have hf:=facts U
    have q4:Gj T C oa env' s (λv e s=>e.go oa.dst v λe=>Gj T C o e s (λv e s=>e.go o.dst v λe=>Q .normal e s) (λx _ s=>∀e',Q x e' s)) (λ_ _ _=>True):=q4
    have hg2:env'.Qk oa.dst=false:=by
     rw [hd]
     unfold Env.Qk at hgl |-
     rw [q3,hf.2.2.1];exact hgl
    rw [kA ho hz] at q4
    unfold JO at q4
    rw [hg2] at q4
    obtain ⟨_,q5⟩:=HN (A9.1 q4)
    unfold Bi
    rw [hgs]
    have tmq:∀s',assoc (Qr env'.tmps oa.dst (.BO env'.Bs 0)) s'=assoc e.tmps s':=λs'=>by
     rw [Ea,hd,<-q1.tmps,<-q1.Bs,ha.tm]
     by_cases h1:s'=t
     .rw [if_pos (by rw [h1]),if_pos h1]
     .rw [if_neg (λe=>h1 (Option.some.inj e).symm),if_neg h1]
    have ev:∀x:Operand,Env.eval ⟨Qr env'.tmps oa.dst (.BO env'.Bs 0),(env'.Bs,z.zero.cells)::env'.boxes,env'.Bs+1,env'.sz,env'.gl⟩ x=e.eval x:=λx=>by
     cases x with
     |tmp t'=>
      have:=tmq t'
      show Env.get _ t'=e.get t'
      unfold Env.get
      dsimp only
      rw [this]
     |const v=>rfl
     |func f=>rfl
     |global g=>rfl
    cases hop:o.op with
    |store ty' px vx=>
     obtain ⟨L',hL'⟩:∃L',Js L' ⟨Qr env'.tmps oa.dst (.BO env'.Bs 0),(env'.Bs,z.zero.cells)::env'.boxes,env'.Bs+1,env'.sz,env'.gl⟩ o=true:=by
      unfold Js
      rw [hop]
      dsimp only
      cases hv:Env.eval ⟨Qr env'.tmps oa.dst (.BO env'.Bs 0),(env'.Bs,z.zero.cells)::env'.boxes,env'.Bs+1,env'.sz,env'.gl⟩ px with
      |BO id off=>exact ⟨[id],GT⟩
      |_=>exact ⟨[],rfl⟩
     refine K5 (T:=T) (C:=C) hop hL' (λx _=>ev x) (by rw [ha.boxes,q2,<-q1.Bs]) (by rw [ha.Bs,<-q1.Bs]) (by rw [ha.sz,<-q1.sz]) (by rw [ha.gl,q3]) (λs' B hB hk=>?_) q5
     obtain ⟨p1,p2⟩:=HN hk
     refine PM (λt' ht'=>by have:=p1 t' ht';rw [show ({e with boxes:=B}:Env).sz=e.sz from rfl,ha.sz,q1.sz];exact this) ⟨bA,true,true,?_,hlen,.inr (.inr ⟨rfl,rfl,hbA,⟨Qr (Qr env'.tmps oa.dst (.BO env'.Bs 0)) o.dst .BE,B,env'.Bs+1,env'.sz,env'.gl⟩,⟨λs''=>?_,λ_=>rfl,?_,?_⟩,p2⟩)⟩
     .rw [List.set_append_right _ _ AC,hlen,show A.length+1 - A.length=1 by omega];rfl
     .show assoc (Qr e.tmps o.dst .BE) s''=assoc (Qr (Qr env'.tmps oa.dst (.BO env'.Bs 0)) o.dst .BE) s''
      rw [Ea,Ea (ts:=Qr env'.tmps oa.dst (.BO env'.Bs 0)),tmq]
     .show e.Bs=env'.Bs+1
      rw [ha.Bs,q1.Bs]
     .show e.sz=env'.sz
      rw [ha.sz,q1.sz]
    |_=>rw [hop] at k4;cases k4
   .cases U
 .rintro bs e s hbl ⟨bA,x,y,rfl,hlen,U⟩
  have lift:∀{j:Nat} {x y:Bool},j<A.length->BG A bA j=true->BG (A++[oa,os]) (bA++[x,y]) j=true:=λ{j x y} hj hq=>by
   unfold BG at hq |-
   rw [I8 AC,List.getElem?_append_left hj]
   have hoj:A[j]? =some A[j]:=List.getElem?_eq_getElem hj
   rw [hoj] at hq |-
   simp only [Bool.and_eq_true,List.all_eq_true] at hq |-
   refine ⟨hq.1,λe he=>?_⟩
   rw [I8 (by rw [hlen];exact (hAo j _ hoj).2.2.2.2 e he)]
   exact hq.2 e he
  rcases U with ⟨rfl,rfl,U⟩|⟨rfl,rfl,e0,U,ha⟩|⟨rfl,rfl,U,_⟩
  .refine .inr ⟨A.length,AC,?_⟩
   unfold BG
   rw [List.getElem?_append_right (Nat.le_refl _),Nat.sub_self,List.getD_eq_getElem?_getD,List.getElem?_append_right AC,hlen,Nat.sub_self]
   have:oa.after.toList=[]:=by simpa using k1
   simp [this]
  .rcases live bA e0 s hlen U with h1|⟨j,h1,h2⟩
   .refine .inr ⟨A.length+1,AC,?_⟩
    unfold BG
    rw [List.getElem?_append_right AC,List.getD_eq_getElem?_getD,List.getElem?_append_right AC,hlen,show A.length+1 - A.length=1 by omega]
    rw [Bool.and_eq_true]
    refine ⟨rfl,?_⟩
    show (os.after.toList.all λe=> !(Region.binds .any e)||(bA++[true,false]).getD e.on false)=true
    rw [List.all_eq_true]
    intro e he
    have hle:e.on<=A.length:=Nat.le_of_ble_eq_true (k7 e he)
    rw [Bool.or_eq_true]
    refine .inr ?_
    rcases Nat.lt_or_eq_of_le hle with h2|h2
    .rw [I8 AC,h1,List.getD_eq_getElem?_getD,List.getElem?_replicate,if_pos h2];rfl
    .rw [List.getD_eq_getElem?_getD,List.getElem?_append_right AC,h2,hlen,Nat.sub_self];rfl
   .exact .inr ⟨j,AC,lift h1 h2⟩
  .refine .inl ?_
   rw [U,hla,List.replicate_succ',List.replicate_succ',List.append_assoc]
   rfl
 .rintro e s ⟨bA,x,y,hbs,hlen,U⟩
  have hlast:(bA++[x,y]).getD A.length false=true/\(bA++[x,y]).getD (A.length+1) false=true:=by
   rw [<-hbs,List.getD_eq_getElem?_getD,List.getD_eq_getElem?_getD,List.getElem?_replicate,List.getElem?_replicate,if_pos AC,if_pos AC]
   exact ⟨rfl,rfl⟩
  have hy:y=true:=by
   have:=hlast.2
   rw [List.getD_eq_getElem?_getD,List.getElem?_append_right AC,hlen,show A.length+1 - A.length=1 by omega] at this
   simpa using this
  rcases U with ⟨_,U,_⟩|⟨_,U,_⟩|⟨_,_,_,h1⟩
  .rw [hy] at U;cases U
  .rw [hy] at U;cases U
  .exact h1
 .refine ⟨List.replicate A.length false,false,false,?_,GT,.inl ⟨rfl,rfl,start⟩⟩
  rw [hla,List.replicate_succ',List.replicate_succ',List.append_assoc]
  rfl
theorem kN (hP:T4 P T) (hC:∀f args st R,C f args st R->CE P f args st R/\Plain P f) (hM:∀f args st (R R':Au->St->Prop),(∀r s,R r s->R' r s)->C f args st R->C f args st R')
 (A:List Oper) (U os:Oper) (sched:List (Nat×Bool)) (L:List Nat) {z:Ty} (he:ops=(A++[U,os]).toArray) (hm:Kk sched A=true) (hk:Qv A U os t=true) (ho:U.op=.alloc ty) (hd:U.dst=some t) (hz:assoc T ty=some z) (hts:t<env.sz) (hgl:env.Qk (some t)=false)
 (h:F9 T C A sched L (Bl (L.map some) env.boxes) (Va T C U os Q) sched env st):AW P (.region id ops true) Q env st:=λD I0 st0 w0 I β a w hr=>
 wp_region_any hP.m (by
  subst he
  exact XT hP.t hC hM hm hk ho hd hz hts hgl h hr)
theorem T8 (hP:T4 P T) (hC:∀f args st R,C f args st R->CE P f args st R/\Plain P f) (hM:∀f args st (R R':Au->St->Prop),(∀r s,R r s->R' r s)->C f args st R->C f args st R')
 (k t:Nat) (sched:List (Nat×Bool)) (L:List Nat) {U os:Oper} {z:Ty} (h1:ops.toList[k]? =some U) (h2:ops.toList[k+1]? =some os) (h3:ops.toList.length=k+2) (hm:Kk sched (ops.toList.take k)=true) (hk:Qv (ops.toList.take k) U os t=true) (ho:U.op=.alloc ty) (hd:U.dst=some t) (hz:assoc T ty=some z) (hts:t<env.sz) (hgl:env.Qk (some t)=false)
 (h:F9 T C (ops.toList.take k) sched L (Bl (L.map some) env.boxes) (Va T C U os Q) sched env st):AW P (.region id ops true) Q env st:=by
 refine kN hP hC hM _ U os sched L (by
  have e1:ops.toList.drop k=[U,os]:=by
   obtain ⟨g1,g2⟩:=List.getElem?_eq_some_iff.1 h1
   obtain ⟨g3,g4⟩:=List.getElem?_eq_some_iff.1 h2
   rw [List.drop_eq_getElem_cons g1,g2,List.drop_eq_getElem_cons g3,g4,List.drop_eq_nil_of_le AC]
  rw [<-e1,List.take_append_drop]) hm hk ho hd hz hts hgl h
end
theorem U5 {c:Operand} {x y:Code} {env:Env} {st:St} (b:Bool) (hb:env.eval c=.bool b) (h:if b=true then AW P x Q env st else AW P y Q env st):AW P (.cond c x y) Q env st:=λD I0 st0 w0 I β a w hr=>by
 have U:=hr.f.eval c
 rw [hb] at U
 have U:=Jn U
 cases b with
 |true=>exact wp_cond_true U (h D I0 st0 w0 I β a w hr)
 |false=>exact wp_cond_false U (h D I0 st0 w0 I β a w hr)
end Go.Aw
namespace Go.Proofs.Z
open Go Go.Aw
def St.YO (b:Nat) (s t:St):Prop:=(∀x cs,x≠b->s.box x=some cs->t.box x=some cs)/\∀x h,s.hw x=some h->t.hw x=some h
theorem GN {s:St}:St.YO b s (s.Aa b cs):=⟨λx c U h=>by rw [St.Ak U.symm];exact h,λ_ _ h=>h⟩
theorem Eb {a c d:St} (h:St.YO b a c) (k:St.YO b c d):St.YO b a d:=⟨λx cs U e=>k.1 x cs U (h.1 x cs U e),λx n e=>k.2 x n (h.2 x n e)⟩
theorem nj {a c:St} (h:a.le c):St.YO b a c:=⟨λx cs _ e=>h.1 x cs e,h.2⟩
def je (b2 b:Nat) (l:List Nd) (w:Bool):List V:=[.func 136 [] [.ptr b2 0],.slice 6 (BL l) .any,.bool w,.func 139 [.ptr b 0] [],.func 140 [.ptr b 0] []]
structure Qt (env:List Fx) (b2 b:Nat) (st:St) (l:List Nd) (w:Bool):Prop where
 ne:b2≠b
 k:st.box b=some (je b2 b l w)
 e:∃o,st.box b2=some [.slice 3 (A4 env) o]
 n:env.length<=1000000000
theorem Qt.set {st st':St} {l':List Nd} {w w':Bool} (h:Qt env b2 b st l w) (U:St.YO b st st') (k:st'.box b=some (je b2 b l' w')):Qt env b2 b st' l' w':=⟨h.ne,k,h.e.imp λo e=>U.1 _ _ h.ne e,h.n⟩
section
variable {st:St} {R:Au->St->Prop}
theorem tail_cons {K:List (List V)->Prop} (k:K (BL r)):((0:Int)<=1/\(1:Int)<=((BL (x::r)).length:Int)/\((BL (x::r)).length:Int)<=(BL (x::r)).length)/\∀U,U=(((BL (x::r)).take (((BL (x::r)).length:Int)).toNat).drop (1:Int).toNat)->K U:=
 Wo (ks:=x::r) Do (by rw [List.length_cons];omega) k
theorem Ph {w:Bool} (hb:st.box b=some (je b2 b (x::r) w)) (h:R (.ret (enc x)) (st.Aa b (je b2 b r w))):PC 181 [.ptr b 0] st R:=by
 refine pB Tryz.func181 ?_
 repeat' ((conv=>whnf);first|refine Wm (ks:=x::r) rfl Do ?_|refine tail_cons ?_|(refine AA ?_;intros)|(refine AB ?_ ?_<;>intro _)|refine Al hb ?_)
 all_goals exact AY rfl h
theorem wD (hn:env.length<=1000000000) (ht:B4 n<=100000000) (hb:st.box b2=some [.slice 3 (A4 env) o]) (h:∀st',st.le st'->R (.ret (.agg (VG env n).cells)) st'):PC 136 [enc n,.ptr b2 0] st R:=by
 refine pB Tryz.func136 ?_
 have hnm:∀{st:St} {R:Au->St->Prop},(∀v,R (.ret (.Bp [.str ((Je n).getD []),.bool v])) st)->PC 137 [enc n] st R:=λh=>WR ht (λt e=>by have:=h true;rw [e] at this;exact this) (λe=>by have:=h false;rw [e] at this;exact this)
 unfold VG at h
 repeat' ((conv=>whnf);first|(refine AA ?_;intros)|(refine AB ?_ ?_<;>intro _)|refine hnm (λv=>?_)|refine Al hb ?_|refine rT mw hn (λst1 U=>?_))
 all_goals exact AY rfl (h _ U)
def LX (env:List Fx) (b2 b:Nat) (st:St) (z:Option (Nd×List Nd)) (n:Nd) (st':St):Prop:=St.YO b st st'/\match z with
 |some q=>n=q.1/\Qt env b2 b st' q.2 false
 |none=>∃l,Qt env b2 b st' l true
theorem LX.mono {st U st':St} {z:Option (Nd×List Nd)} (h:LX env b2 b U z n st') (k:St.YO b st U):LX env b2 b st z n st':=⟨Eb k h.1,h.2⟩
end
mutual
theorem Nu {env:List Fx}:∀(k:Nat) {o:Fx} {l:List Nd} {q:Nd×List Nd},CM env k o l=some q->EA true l=true->EA false q.2=true/\q.2.length<l.length/\BC q.2<=BC l
 |0,o,l,q,h,_=>by cases h
 |k+1,o,[],q,h,_=>by cases h
 |k+1,o,n::r,q,h,U=>by
  rw [CM] at h
  rw [EA] at U
  rw [BC,List.length_cons]
  by_cases h1:n.kind=19
  .rw [if_pos h1] at h U
   by_cases h2:6<=o.prec
   .rw [if_pos h2] at h;cases h
   .rw [if_neg h2] at h
    split at h
    .rename_i p hp
     have h3:=Nu k hp U
     have h4:=then_ok k h h3.1
     exact ⟨h4.1,AC,AC⟩
    .cases h
  .rw [if_neg h1] at h U
   by_cases h2:n.kind=18
   .rw [if_pos h2] at U;cases U
   .rw [if_neg h2] at U
    have h4:=then_ok k h U
    exact ⟨h4.1,AC,AC⟩
theorem then_ok {env:List Fx}:∀(k:Nat) {o:Fx} {n:Nd} {l:List Nd} {q:Nd×List Nd},ED env k o n l=some q->EA false l=true->EA false q.2=true/\q.2.length<=l.length/\BC q.2<=BC l
 |0,o,n,l,q,h,_=>by cases h
 |k+1,o,n,[],q,h,U=>by cases h;exact ⟨U,Nat.le_refl _,Nat.le_refl _⟩
 |k+1,o,n,p::r,q,h,U=>by
  rw [ED] at h
  split at h
  .cases h
  .split at h
   .cases h;exact ⟨U,Nat.le_refl _,Nat.le_refl _⟩
   .rw [EA] at U
    rw [BC,List.length_cons]
    split at U
    .split at h
     .rename_i q' hq
      have h3:=Nu k hq U
      have h4:=then_ok k h h3.1
      exact ⟨h4.1,AC,AC⟩
     .cases h
    .cases U
end
def Q7 (env:List Fx) (k:Nat):Prop:=∀{b2 b:Nat} {o:Fx} {l:List Nd} {st:St} {R:Au->St->Prop},l.length<k->EA true l=true->BC l<=100000000->Qt env b2 b st l false->(∀n st',LX env b2 b st (CM env k o l) n st'->R (.ret (enc n)) st')->PC 139 [.ptr b 0,.agg o.cells] st R
def ar (env:List Fx) (k:Nat):Prop:=∀{b2 b:Nat} {o:Fx} {n:Nd} {l:List Nd} {st:St} {R:Au->St->Prop},l.length<k->EA false l=true->BC l<=100000000->Qt env b2 b st l false->(∀U st',LX env b2 b st (ED env k o n l) U st'->R (.ret (enc U)) st')->PC 140 [.ptr b 0,.agg o.cells,enc n] st R
section
variable {st:St} {R:Au->St->Prop}
def wc (n:Nd) (w:AE):List V:=[.int .i64 n.kind,.int .i64 n.form,.str n.text,.int .i64 n.line,.int .i64 n.Cg,.slice 6 (BL n.kids) w]
theorem yx (a b c:Nd):BL [a,b,c]=[Ax a,Ax b,Ax c]:=by rw [BK];rfl
theorem yw (a b:Nd):BL [a,b]=[Ax a,Ax b]:=by rw [BK];rfl
theorem sk {o:Fx} (hb:st.box b=some (je b2 b l true)) (h:R (.ret (enc n)) st):PC 140 [.ptr b 0,.agg o.cells,.agg (wc n w)] st R:=by
 refine pB Tryz.func140 ?_
 repeat' ((conv=>whnf);first|exact BH|(refine AA ?_;intros)|(refine BI ?_ ?_ ?_;rotate_left)|(refine AB ?_ ?_<;>intro _)|with_reducible refine WF ?_)
 refine Dc (α:=Unit) (λ_=>[]) [0,4,5,6] (λ_=>[]) [0,1,2] (λ_=>st) (λ_=>True) (λ_=>0) () trivial Yl (St.le_refl _) ?_
 rintro _ _
 repeat' ((conv=>whnf);first|exact BH|(refine AA ?_;intros)|(refine BI ?_ ?_ ?_;rotate_left)|(refine AB ?_ ?_<;>intro _)|refine Al hb ?_|with_reducible refine WF ?_)
 all_goals exact AY rfl h
theorem rj (k:Int) (a b:Nd) (w:AE):wc (Ar k [a,b]) w=[.int .i64 k,.int .i64 0,.str [],.int .i64 0,.int .i64 0,.slice 6 [Ax a,Ax b] w]:=by
 unfold wc
 rw [show (Ar k [a,b]).kids=[a,b] from rfl,yw];rfl
theorem yp (k:Int) (a b c:Nd) (w:AE):wc (Ar k [a,b,c]) w=[.int .i64 k,.int .i64 0,.str [],.int .i64 0,.int .i64 0,.slice 6 [Ax a,Ax b,Ax c] w]:=by
 unfold wc
 rw [show (Ar k [a,b,c]).kids=[a,b,c] from rfl,yx];rfl
theorem mF {o:Fx} {m:Nd} (hb:st.box b=some (je b2 b l true)) (h:R (.ret (enc (Ar 21 [n,m]))) st):PC 140 [.ptr b 0,.agg o.cells,.agg [.int .i64 21,.int .i64 0,.str [],.int .i64 0,.int .i64 0,.slice 6 [Ax n,Ax m] .full]] st R:=by
 rw [<-rj]
 exact sk hb h
theorem qX (hB:Q7 env k) (hG:ar env k):Q7 env (k+1):=by
 intro b2 b o l st R hl hr ht hx h
 cases l with
 |nil=>cases hr
 |cons n r=>
  rw [CM] at h
  rw [EA] at hr
  rw [BC] at ht
  rw [List.length_cons] at hl
  refine pB Tryz.func139 ?_
  have x1:Qt env b2 b (st.Aa b (je b2 b r false)) r false:=hx.set GN (St.Ah ..)
  have l1:St.YO b st (st.Aa b (je b2 b r false)):=GN
  by_cases h1:n.kind=19
  .rw [if_pos h1] at h hr
   by_cases h2:6<=o.prec
   .rw [if_pos h2] at h
    repeat' ((conv=>whnf);first|exact BH|(refine AA ?_;intros)|(refine BI ?_ ?_ ?_;rotate_left)|(refine AB ?_ ?_<;>intro _)|refine Ph hx.k ?_|refine Al x1.k ?_|with_reducible refine WF ?_)
    all_goals exact AY rfl (h n _ ⟨Eb GN GN,r,x1.set GN (St.Ah ..)⟩)
   .rw [if_neg h2] at h
    have hb:∀{U:St} {R:Au->St->Prop},Qt env b2 b U r false->(∀n st',LX env b2 b U (CM env k ⟨[],1,6⟩ r) n st'->R (.ret (enc n)) st')->PC 139 [.ptr b 0,.agg [.str [],.int .i64 1,.int .i64 6]] U R:=λhx h=>hB (o:=⟨[],1,6⟩) AC hr AC hx h
    cases hz:CM env k ⟨[],1,6⟩ r with
    |none=>
     rw [hz] at h hb
     have hb2:∀{U:St} {R:Au->St->Prop},Qt env b2 b U r false->(∀n l st',St.YO b U st'->Qt env b2 b st' l true->st'.box b=some (je b2 b l true)->R (.ret (enc n)) st')->PC 139 [.ptr b 0,.agg [.str [],.int .i64 1,.int .i64 6]] U R:=λhx h=>hb hx λn st' ha=>ha.2.elim λl hl=>h n l st' ha.1 hl hl.k
     repeat' ((conv=>whnf);first|exact BH|(refine AA ?_;intros)|(refine BI ?_ ?_ ?_;rotate_left)|(refine AB ?_ ?_<;>intro _)|refine Ph hx.k ?_|refine Al x1.k ?_|refine hb2 x1 (λm l2 st2 hl2 x2 x3=>?_)|refine Al ‹_› ?_|refine mF ‹_› ?_|refine Ad [(0,true),(1,true),(2,true),(3,true),(4,true),(5,true),(6,false),(7,true),(8,true),(9,false)] [2] GE ?_|refine Ad [(0,true),(1,true),(2,true),(3,true),(4,true),(5,true),(6,false),(7,false)] [1] GE ?_|with_reducible refine WF ?_)
     all_goals exact AY rfl (h _ _ ⟨Eb l1 hl2,l2,x2⟩)
    |some q=>
     rw [hz] at h hb
     obtain ⟨ok1,ok2,ok3⟩:=Nu k hz hr
     have hb2:∀{U:St} {R:Au->St->Prop},Qt env b2 b U r false->(∀st',St.YO b U st'->Qt env b2 b st' q.2 false->st'.box b=some (je b2 b q.2 false)->R (.ret (enc q.1)) st')->PC 139 [.ptr b 0,.agg [.str [],.int .i64 1,.int .i64 6]] U R:=λhx h=>hb hx λn st' ha=>by
      obtain ⟨h1,rfl,h3⟩:=ha
      exact h st' h1 h3 h3.k
     have hg:∀{U:St} {R:Au->St->Prop},Qt env b2 b U q.2 false->(∀n' st',LX env b2 b U (ED env k o (Ar 21 [n,q.1]) q.2) n' st'->R (.ret (enc n')) st')->PC 140 [.ptr b 0,.agg o.cells,.agg [.int .i64 21,.int .i64 0,.str [],.int .i64 0,.int .i64 0,.slice 6 [Ax n,Ax q.1] .full]] U R:=λhx h=>FL (args':=[.ptr b 0,.agg o.cells,.agg [.int .i64 21,.int .i64 0,.str [],.int .i64 0,.int .i64 0,.slice 6 [Ax n,Ax q.1] .any]]) rfl (by
      rw [<-rj]
      exact hG (n:=Ar 21 [n,q.1]) AC ok1 AC hx h)
     repeat' ((conv=>whnf);first|exact BH|(refine AA ?_;intros)|(refine BI ?_ ?_ ?_;rotate_left)|(refine AB ?_ ?_<;>intro _)|refine Ph hx.k ?_|refine Al x1.k ?_|refine hb2 x1 (λst2 hl2 x2 x3=>?_)|refine Al ‹_› ?_|refine hg ‹_› (λm st3 ha=>?_)|refine Ad [(0,true),(1,true),(2,true),(3,true),(4,true),(5,true),(6,false),(7,true),(8,true),(9,false)] [2] GE ?_|refine Ad [(0,true),(1,true),(2,true),(3,true),(4,true),(5,true),(6,false),(7,false)] [1] GE ?_|with_reducible refine WF ?_)
     all_goals exact AY rfl (h _ _ (ha.mono (Eb l1 hl2)))
  .rw [if_neg h1] at h hr
   have h2:¬n.kind=18:=λe=>by rw [if_pos e] at hr;cases hr
   rw [if_neg h2] at hr
   have hg:∀{U:St} {R:Au->St->Prop},Qt env b2 b U r false->(∀n' st',LX env b2 b U (ED env k o n r) n' st'->R (.ret (enc n')) st')->PC 140 [.ptr b 0,.agg o.cells,enc n] U R:=λhx h=>hG AC hr AC hx h
   repeat' ((conv=>whnf);first|exact BH|(refine AA ?_;intros)|(refine BI ?_ ?_ ?_;rotate_left)|(refine AB ?_ ?_<;>intro _)|refine Ph hx.k ?_|refine Al x1.k ?_|refine hg x1 (λm st2 ha=>?_)|refine Ad [(0,true),(1,true),(2,true),(3,true),(4,true),(5,true),(6,false),(7,true),(8,true),(9,false)] [2] GE ?_|refine Ad [(0,true),(1,true),(2,true),(3,true),(4,true),(5,true),(6,false),(7,false)] [1] GE ?_|with_reducible refine WF ?_)
   all_goals exact AY rfl (h _ _ (ha.mono l1))
def GoJ (env:List Fx) (b2 b:Nat) (o:Fx) (k:Nat) (z:Option (Nd×List Nd)) (st:St) (n:Nd) (l:List Nd) (w:Bool) (m:St) (U:Nat):Prop:=St.YO b st m/\Qt env b2 b m l w/\
 ((w=false/\U<=k+1/\z=ED env U o n l/\l.length<U/\EA false l=true/\BC l<=100000000)\/(w=true/\z=none))
theorem sj (hB:∀j,j<=k->Q7 env j):ar env (k+1):=by
 intro b2 b o n l st R hl hr ht hx h
 generalize hz:ED env (k+1) o n l=z at h
 refine AO Ab [] Tryz.func140 rfl Do rfl ?_
 refine Ag (Ai Ab ?_)
 repeat' ((conv=>whnf);first|exact BH|(refine AA ?_;intros)|(refine BI ?_ ?_ ?_;rotate_left)|(refine AB ?_ ?_<;>intro _)|with_reducible refine WF ?_)
 have e0:Ax n=wc n .any:=rfl
 refine Ag (MR (XP (α:=Nat×Nd×AE×List Nd×Bool×St) (λ_=>[]) (λy=>[(1,wc y.2.1 y.2.2.1)]) [0,4,5,6] [0,2] (λy=>y.2.2.2.2.2) (λy=>GoJ env b2 b o k z st y.2.1 y.2.2.2.1 y.2.2.2.2.1 y.2.2.2.2.2 y.1) (λy=>bif y.2.2.2.2.1 then 0 else y.2.2.2.1.length+1) (k+1,n,.any,l,false,st) ⟨⟨λ_ _ _ h=>h,λ_ _ h=>h⟩,hx,.inl ⟨rfl,Nat.le_refl _,hz.symm,hl,hr,ht⟩⟩ Yl (St.le_refl _) ?_))
 rintro ⟨k',n,wn,l,w,m⟩ ⟨j1,j2,j3⟩
 clear hz hr hx hl ht
 dsimp only at j1 j2 j3 |-
 have out:∀w',w=w'->(w'=false->l=[])->LX env b2 b st z n m:=λw' e1 e2=>by
  refine ⟨j1,?_⟩
  rcases j3 with ⟨rfl,_,g2,g3,_⟩|⟨rfl,rfl⟩
  .obtain rfl:=e2 e1.symm
   obtain ⟨k3,rfl⟩:∃k3,k'=k3+1:=⟨k' - 1,AC⟩
   rw [g2]
   exact ⟨rfl,j2⟩
  .exact ⟨l,j2⟩
 cases w with
 |true=>
  have hout:=out true rfl (λe=>by cases e)
  refine Ag (Ai Ab ?_)
  repeat' ((conv=>whnf);first|exact BH|(refine AA ?_;intros)|(refine BI ?_ ?_ ?_;rotate_left)|(refine AB ?_ ?_<;>intro _)|refine Al j2.k ?_|with_reducible refine WF ?_)
  refine Ai Ab ?_
  repeat' ((conv=>whnf);first|exact BH|(refine AA ?_;intros)|(refine BI ?_ ?_ ?_;rotate_left)|(refine AB ?_ ?_<;>intro _)|with_reducible refine WF ?_)
  all_goals exact AY rfl (h _ _ hout)
 |false=>
  obtain ⟨_,g1,g2,g3,g4,g5⟩|⟨e,_⟩:=j3
  rotate_left
  .cases e
  cases l with
  |nil=>
   have hout:=out false rfl (λ_=>rfl)
   refine Ag (Ai Ab ?_)
   repeat' ((conv=>whnf);first|refine OU (n:=0) rfl ?_|exact BH|(refine AA ?_;intros)|(refine BI ?_ ?_ ?_;rotate_left)|(refine AB ?_ ?_<;>intro _)|refine Al j2.k ?_|with_reducible refine WF ?_)
   refine Ai Ab ?_
   repeat' ((conv=>whnf);first|exact BH|(refine AA ?_;intros)|(refine BI ?_ ?_ ?_;rotate_left)|(refine AB ?_ ?_<;>intro _)|with_reducible refine WF ?_)
   all_goals exact AY rfl (h _ _ hout)
  |cons p r=>
   clear out
   obtain ⟨k3,rfl⟩:∃k3,k'=k3+1:=⟨k' - 1,AC⟩
   rw [List.length_cons] at g3
   rw [BC] at g5
   rw [ED] at g2
   rw [EA] at g4
   have hpos:(0:Int)<((r.length+1:Nat):Int):=AC
   refine Ag (Ai Ab ?_)
   repeat' ((conv=>whnf);first|refine OU (n:=r.length+1) (List.length_map ..) ?_|refine Wv hpos ?_|exact BH|(refine AA ?_;intros)|(refine BI ?_ ?_ ?_;rotate_left)|(refine AB ?_ ?_<;>intro _)|refine Al j2.k ?_|with_reducible refine WF ?_)
   obtain ⟨ow,hbe⟩:=j2.e
   refine MR (Ag (T8 Ab (BF _) (λ_ _ _ _ _ h k=>k.mono h) 11 7 [(0,true),(1,true),(2,true),(3,true),(4,true),(5,true),(6,true),(7,true),(8,true),(9,true),(10,false)] [] rfl rfl rfl EQ EQ rfl rfl rfl (Nat.le_of_ble_eq_true rfl) rfl ?_))
   repeat' ((conv=>whnf);first|refine Wm (ks:=p::r) rfl Do ?_|exact BH|(refine AA ?_;intros)|(refine BI ?_ ?_ ?_;rotate_left)|(refine AB ?_ ?_<;>intro _)|refine Al j2.k ?_|refine wD j2.n AC hbe (λU hle1=>?_)|with_reducible refine WF ?_)
   have x1:=j2.set (nj hle1) (hle1.1 _ _ j2.k)
   have l1:=Eb j1 (nj hle1)
   generalize VG env p=f at g2 |-
   have x2:=x1.set (l':=r) (w':=false) GN (St.Ah ..)
   have hrw:EA true r=true:=by
    split at g4
    .exact g4
    .cases g4
   by_cases c1:o.prec=f.prec/\(o.side≠f.side\/o.side=3)
   .rw [if_pos c1] at g2
    subst g2
    have x2:=x1.set (l':=p::r) (w':=true) GN (St.Ah ..)
    refine Ag (Ai Ab ?_)
    repeat' ((conv=>whnf);first|exact BH|(refine AA ?_;intros)|(refine BI ?_ ?_ ?_;rotate_left)|(refine AB ?_ ?_<;>intro _)|refine Al x1.k ?_|refine Al (hle1.1 _ _ j2.k) ?_|with_reducible refine WF ?_)
    all_goals try (exfalso;omega)
    all_goals refine Ai Ab ?_
    all_goals (repeat' ((conv=>whnf);first|exact BH|(refine AA ?_;intros)|(refine BI ?_ ?_ ?_;rotate_left)|(refine AB ?_ ?_<;>intro _)|with_reducible refine WF ?_))
    all_goals exact AY rfl (h _ _ ⟨Eb l1 GN,_,x2⟩)
   .rw [if_neg c1] at g2
    refine Ag (Ai Ab ?_)
    repeat' ((conv=>whnf);first|exact BH|(refine AA ?_;intros)|(refine BI ?_ ?_ ?_;rotate_left)|(refine AB ?_ ?_<;>intro _)|with_reducible refine WF ?_)
    all_goals try (exfalso;omega)
    all_goals by_cases c2:f.prec<o.prec\/o.prec=f.prec/\o.side=1
    all_goals refine Ag (Ai Ab ?_)
    all_goals (repeat' ((conv=>whnf);first|exact BH|(refine AA ?_;intros)|(refine BI ?_ ?_ ?_;rotate_left)|(refine AB ?_ ?_<;>intro _)|with_reducible refine WF ?_))
    all_goals try (exfalso;omega)
    all_goals first
     |(rw [if_pos AC] at g2
       subst g2
       refine Ai Ab ?_
       repeat' ((conv=>whnf);first|exact BH|(refine AA ?_;intros)|(refine BI ?_ ?_ ?_;rotate_left)|(refine AB ?_ ?_<;>intro _)|with_reducible refine WF ?_)
       all_goals exact AY rfl (h _ _ ⟨l1,rfl,x1⟩))
     |(rw [if_neg AC] at g2
       refine Ai Ab ?_
       cases hq:CM env k3 f r with
       |none=>
        rw [hq] at g2
        have hb2:∀{U:St} {R:Au->St->Prop},Qt env b2 b U r false->(∀n l st',St.YO b U st'->Qt env b2 b st' l true->R (.ret (enc n)) st')->PC 139 [.ptr b 0,.agg f.cells] U R:=λhx h=>hB k3 AC AC hrw AC hx λn st' ha=>by
         rw [hq] at ha
         obtain ⟨h1,l,h3⟩:=ha
         exact h n l st' h1 h3
        repeat' ((conv=>whnf);first|exact BH|(refine AA ?_;intros)|(refine BI ?_ ?_ ?_;rotate_left)|(refine AB ?_ ?_<;>intro _)|refine Ph x1.k ?_|refine Al x2.k ?_|refine hb2 x2 (λn2 l2 st2 hl2 x3=>?_)|refine Ad [(0,true),(1,true),(2,true),(3,true),(4,true),(5,true),(6,true),(7,true),(8,true),(9,true),(10,false),(11,false),(12,false)] [3] GE ?_|refine Ad [(0,true),(1,true),(2,true),(3,true),(4,true),(5,true),(6,true),(7,false),(8,true),(9,true),(10,false)] [1] GE ?_|with_reducible refine WF ?_)
        all_goals conv=>whnf
        all_goals exact ⟨(k3,Ar 20 [n,p,n2],.full,l2,true,st2),⟨Eb l1 (Eb GN hl2),x3,.inr ⟨rfl,g2⟩⟩,Nat.succ_pos _,by dsimp only;rw [yp];exact Yl,St.le_refl _⟩
       |some q=>
        rw [hq] at g2
        obtain ⟨ok1,ok2,ok3⟩:=Nu k3 hq hrw
        have hb2:∀{U:St} {R:Au->St->Prop},Qt env b2 b U r false->(∀st',St.YO b U st'->Qt env b2 b st' q.2 false->R (.ret (enc q.1)) st')->PC 139 [.ptr b 0,.agg f.cells] U R:=λhx h=>hB k3 AC AC hrw AC hx λn st' ha=>by
         rw [hq] at ha
         obtain ⟨h1,rfl,h3⟩:=ha
         exact h st' h1 h3
        repeat' ((conv=>whnf);first|exact BH|(refine AA ?_;intros)|(refine BI ?_ ?_ ?_;rotate_left)|(refine AB ?_ ?_<;>intro _)|refine Ph x1.k ?_|refine Al x2.k ?_|refine hb2 x2 (λst2 hl2 x3=>?_)|refine Ad [(0,true),(1,true),(2,true),(3,true),(4,true),(5,true),(6,true),(7,true),(8,true),(9,true),(10,false),(11,false),(12,false)] [3] GE ?_|refine Ad [(0,true),(1,true),(2,true),(3,true),(4,true),(5,true),(6,true),(7,false),(8,true),(9,true),(10,false)] [1] GE ?_|with_reducible refine WF ?_)
        all_goals conv=>whnf
        all_goals exact ⟨(k3,Ar 20 [n,p,q.1],.full,q.2,false,st2),⟨Eb l1 (Eb GN hl2),x3,.inl ⟨rfl,So,g2,So,ok1,So⟩⟩,by show q.2.length+1<(p::r).length+1;rw [List.length_cons];omega,by dsimp only;rw [yp];exact Yl,St.le_refl _⟩)
theorem k8 (env:List Fx):∀k,(∀j,j<=k->Q7 env j)/\ar env k
 |0=>⟨λj hj=>by
   obtain rfl:j=0:=AC
   exact λh=>absurd h (Nat.not_lt_zero _),λh=>absurd h (Nat.not_lt_zero _)⟩
 |k+1=>by
  obtain ⟨U,h2⟩:=k8 env k
  have h3:Q7 env (k+1):=qX (U k (Nat.le_refl _)) h2
  exact ⟨λj hj=>by
   rcases Nat.lt_or_ge j (k+1) with h|h
   .exact U j AC
   .obtain rfl:j=k+1:=AC
    exact h3,sj U⟩
theorem ew {a c d:St} (h:a.le c) (hb:a.box b=none) (k:St.YO b c d):a.le d:=⟨λx cs e=>k.1 x cs (λe'=>by subst e';rw [hb] at e;cases e) (h.1 x cs e),λx n e=>k.2 x n (h.2 x n e)⟩
theorem vk (hn:env.length<=1000000000) (ht:B4 n<=100000000) (h1:∀t,O0 env n=.inr t->∀m,st.le m->R (.ret (.Bp [enc t,.int .i64 0])) m) (h2:∀e,O0 env n=.inl e->∀m,st.le m->R (.ret (.Bp [enc Gg,.int .i64 e])) m):PC 91 [.slice 3 (A4 env) w,enc n] st R:=by
 have htk:=DJ n
 refine DH Ab [2,22] Tryz.func91 rfl Do ?_
 unfold O0 at h1 h2
 by_cases hk:n.kind=17
 .rw [if_pos hk] at h1 h2
  cases hr:EA true n.kids with
  |false=>
   rw [hr,if_neg Do] at h2
   have hrow:∀{st:St} {R:Au->St->Prop},R (.ret (.bool false)) st->PC 135 [.slice 6 (BL n.kids) .any] st R:=λh=>vv AC (by rw [hr];exact h)
   repeat' ((conv=>whnf);first|(refine AA ?_;intros)|(refine AB ?_ ?_<;>intro _)|refine DZ (λb2 f2=>?_)|refine hrow ?_)
   all_goals exact AY rfl (h2 _ rfl _ (St.Af (St.le_refl _) f2.1 _))
  |true=>
   rw [hr,if_pos rfl] at h1 h2
   have hrow:∀{st:St} {R:Au->St->Prop},R (.ret (.bool true)) st->PC 135 [.slice 6 (BL n.kids) .any] st R:=λh=>vv AC (by rw [hr];exact h)
   repeat' ((conv=>whnf);first|(refine AA ?_;intros)|(refine AB ?_ ?_<;>intro _)|refine DZ (λb f=>?_)|refine hrow ?_|refine Al (St.Ah ..) ?_)
   rename_i b2 f2
   obtain ⟨hne,fb⟩:=AX f
   have hx:∀C0 C1 C2,Qt env b2 b (((((st.Aa b2 [.slice 3 (A4 env) w]).Aa b C0).Aa b C1).Aa b C2).Aa b (je b2 b n.kids false)) n.kids false:=λC0 C1 C2=>⟨hne,St.Ah ..,⟨w,by rw [St.Ak hne.symm,St.Ak hne.symm,St.Ak hne.symm,St.Ak hne.symm,St.Ah]⟩,hn⟩
   have hle:∀C0 C1 C2 C3,st.le (((((st.Aa b2 [.slice 3 (A4 env) w]).Aa b C0).Aa b C1).Aa b C2).Aa b C3):=λ_ _ _ _=>St.Af (St.Af (St.Af (St.Af (St.Af (St.le_refl _) f2.1 _) fb.1 _) fb.1 _) fb.1 _) fb.1 _
   have hb:∀{U:St} {R:Au->St->Prop},Qt env b2 b U n.kids false->(∀n' st',LX env b2 b U (CM env (2*n.kids.length+2) ⟨[],3, -1⟩ n.kids) n' st'->R (.ret (enc n')) st')->PC 139 [.ptr b 0,.agg [.str [],.int .i64 3,.int .i64 (-1)]] U R:=λhx h=>(k8 env (2*n.kids.length+2)).1 _ (Nat.le_refl _) (o:=⟨[],3, -1⟩) AC hr AC hx h
   cases hz:CM env (2*n.kids.length+2) ⟨[],3, -1⟩ n.kids with
   |none=>
    rw [hz] at h2 hb
    have hb2:∀{U:St} {R:Au->St->Prop},Qt env b2 b U n.kids false->(∀n' l st',St.YO b U st'->st'.box b=some (je b2 b l true)->R (.ret (enc n')) st')->PC 139 [.ptr b 0,.agg [.str [],.int .i64 3,.int .i64 (-1)]] U R:=λhx h=>hb hx λn' st' ha=>ha.2.elim λl hl=>h n' l st' ha.1 hl.k
    repeat' ((conv=>whnf);first|(refine AA ?_;intros)|(refine AB ?_ ?_<;>intro _)|refine hb2 (hx _ _ _) (λm l2 st2 hl2 hb2=>?_)|refine Al ‹_› ?_)
    all_goals exact AY rfl (h2 _ rfl _ (ew (hle _ _ _ _) fb.1 hl2))
   |some q=>
    rw [hz] at h1 hb
    have hb2:∀{U:St} {R:Au->St->Prop},Qt env b2 b U n.kids false->(∀st',St.YO b U st'->st'.box b=some (je b2 b q.2 false)->R (.ret (enc q.1)) st')->PC 139 [.ptr b 0,.agg [.str [],.int .i64 3,.int .i64 (-1)]] U R:=λhx h=>hb hx λn' st' ha=>by
     obtain ⟨h1,rfl,h3⟩:=ha
     exact h st' h1 h3.k
    repeat' ((conv=>whnf);first|(refine AA ?_;intros)|(refine AB ?_ ?_<;>intro _)|refine hb2 (hx _ _ _) (λst2 hl2 hb2=>?_)|refine Al ‹_› ?_)
    all_goals exact AY rfl (h1 _ rfl _ (ew (hle _ _ _ _) fb.1 hl2))
 .rw [if_neg hk] at h1 h2
  repeat' ((conv=>whnf);first|(refine AA ?_;intros)|(refine AB ?_ ?_<;>intro _)|refine DZ (λb2 f2=>?_))
  all_goals exact AY rfl (h1 _ rfl _ (St.Af (St.le_refl _) f2.1 _))
end
theorem tB {a b:Nd} (U:n.kids=a::b::r) (h:n.kind=35) (hs:EZ a≠0):Ks n=if b.kind=1/\b.form=11 then (if (EH b.text).2=0/\(EH b.text).1<=9 then JU (EZ a) (EH b.text).1 r else .inl 120) else JU (EZ a) 9 (b::r):=by
 unfold Ks
 rw [U]
 exact if_pos ⟨h,hs⟩
theorem tA {a b:Nd} (U:n.kids=a::b::r) (h:¬(n.kind=35/\EZ a≠0)):Ks n=.inl 120:=by
 unfold Ks
 rw [U]
 exact if_neg h
theorem cA (h:n.kids.length<2):Ks n=.inl 120:=by
 unfold Ks
 match n.kids,h with
 |[],_=>rfl
 |[_],_=>rfl
 |_::_::r,h=>exact absurd h GT
theorem Ze {s:Int} (b:Bool) (U:List Fx):JV s p b [] U=some U:=by cases b<;>rfl
theorem SY {s:Int} (h:l.length % 2=0\/JV s p false l []=none):JU s p l=.inl 120:=by
 unfold JU
 rcases h with h|h
 .exact if_pos h
 .split
  .rfl
  .rw [h]
theorem oI {s:Int} {m:List Fx} (h:¬l.length % 2=0) (k:JV s p false l []=some m):JU s p l=.inr m:=by
 unfold JU
 rw [if_neg h,k]
section
variable {st:St} {R:Au->St->Prop}
attribute [local irreducible] Go.Aw.Am
theorem vl (ht:B4 n<=100000000) (h1:∀l,Ks n=.inr l->∀st',st.le st'->R (.ret (.Bp [.slice 3 (A4 l) .any,.int .i64 0])) st') (h2:Ks n=.inl 120->∀st',st.le st'->R (.ret (.Bp [.slice 3 [] .any,.int .i64 120])) st') (hz:n.kids.length<=900000000):PC 175 [enc n] st R:=by
 have htk:=DJ n
 refine AO Ab [] Tryz.func175 rfl Do rfl ?_
 refine Ag (Ai Ab ?_)
 repeat' ((conv=>whnf);first|exact BH|(refine AA ?_;intros)|(refine BI ?_ ?_ ?_;rotate_left)|(refine AB ?_ ?_<;>intro _)|refine B2 (λ_=>?_) ?_|with_reducible refine WF ?_)
 by_cases hlen:n.kids.length<2
 .have U:=cA hlen
  refine Ag (Ai Ab ?_)
  repeat' ((conv=>whnf);first|exact BH|(refine AA ?_;intros)|(refine BI ?_ ?_ ?_;rotate_left)|(refine AB ?_ ?_<;>intro _)|refine B2 (λ_=>?_) ?_|with_reducible refine WF ?_)
  all_goals exact AY rfl (h2 U _ (St.le_refl _))
 .obtain ⟨a,ha⟩:∃x,n.kids[(0:Int).toNat]? =some x:=⟨_,List.getElem?_eq_getElem (by show 0<n.kids.length;omega)⟩
  obtain ⟨b,hb⟩:∃x,n.kids[1]? =some x:=⟨_,List.getElem?_eq_getElem AC⟩
  have hks:n.kids=a::b::n.kids.drop 2:=by
   have e1:=drop_at (show n.kids[0]? =some a from ha)
   rw [List.drop_zero] at e1
   rw [<-drop_at hb]
   exact e1
  by_cases hk:n.kind=35/\EZ a≠0
  .have U:=tB hks hk.1 hk.2
   obtain ⟨hk1,hk2⟩:=hk
   refine Ag (Ai Ab ?_)
   repeat' ((conv=>whnf);first|refine Wm ha Do ?_|exact BH|(refine AA ?_;intros)|(refine BI ?_ ?_ ?_;rotate_left)|(refine AB ?_ ?_<;>intro _)|refine B2 (λ_=>?_) ?_|refine VM ?_|with_reducible refine WF ?_)
   refine Ag (Ai Ab ?_)
   repeat' ((conv=>whnf);first|refine Wm ha Do ?_|exact BH|(refine AA ?_;intros)|(refine BI ?_ ?_ ?_;rotate_left)|(refine AB ?_ ?_<;>intro _)|refine B2 (λ_=>?_) ?_|refine VM ?_|with_reducible refine WF ?_)
   refine Ag (Ai Ab ?_)
   repeat' ((conv=>whnf);first|exact BH|(refine AA ?_;intros)|(refine BI ?_ ?_ ?_;rotate_left)|(refine AB ?_ ?_<;>intro _)|refine B2 (λ_=>?_) ?_|with_reducible refine WF ?_)
   refine FT (α:=List Nd×Int) (λy=>[(5,.slice 6 (BL y.1) .any)]) (λy=>[(1,[.str [],.int .i64 (EZ a),.int .i64 y.2])]) [4] [] (λ_=>st) (λy=>Ks n=JU (EZ a) y.2 y.1/\y.1.length<=900000000/\BC y.1<=BC n.kids) ?_ ?_
   .refine Ai Ab ?_
    have hd1:(n.kids.drop (Int.toNat 1)).length=n.kids.length - 1:=List.length_drop ..
    have hb':(n.kids.drop (Int.toNat 1))[(0:Int).toNat]? =some b:=by rw [List.getElem?_drop];exact hb
    by_cases hi:b.kind=1/\b.form=11
    .rw [if_pos hi] at U
     obtain ⟨hi1,hi2⟩:=hi
     by_cases hw:(EH b.text).2=0/\(EH b.text).1<=9
     .rw [if_pos hw] at U
      obtain ⟨hw1,hw2⟩:=hw
      repeat' ((conv=>whnf);first|refine Wm hb' Do ?_|exact BH|(refine AA ?_;intros)|(refine BI ?_ ?_ ?_;rotate_left)|(refine AB ?_ ?_<;>intro _)|refine B2 (λ_=>?_) ?_|refine XL ?_|refine Ad [(0,true),(1,true),(2,true),(3,true),(4,false),(5,true)] [1] GE ?_|with_reducible refine WF ?_)
      all_goals conv=>whnf
      all_goals exact ⟨((n.kids.drop (Int.toNat 1)).drop (Int.toNat 1),(EH b.text).1),⟨by rw [List.drop_drop];exact U,by rw [List.length_drop,List.length_drop];omega,by rw [List.drop_drop];exact MM _ _⟩,Yl,St.le_refl _⟩
     .rw [if_neg hw] at U
      repeat' ((conv=>whnf);first|refine Wm hb' Do ?_|exact BH|(refine AA ?_;intros)|(refine BI ?_ ?_ ?_;rotate_left)|(refine AB ?_ ?_<;>intro _)|refine B2 (λ_=>?_) ?_|refine XL ?_|with_reducible refine WF ?_)
      all_goals first|exact AY rfl (h2 U _ (St.le_refl _))|(exfalso;omega)
    .rw [if_neg hi,<-drop_at hb] at U
     repeat' ((conv=>whnf);first|refine Wm hb' Do ?_|exact BH|(refine AA ?_;intros)|(refine BI ?_ ?_ ?_;rotate_left)|(refine AB ?_ ?_<;>intro _)|refine B2 (λ_=>?_) ?_|with_reducible refine WF ?_)
     all_goals conv=>whnf
     all_goals exact ⟨(n.kids.drop (Int.toNat 1),9),⟨U,IR,MM _ _⟩,Yl,St.le_refl _⟩
   .rintro ⟨l,p⟩ ⟨U,hl,htd⟩
    dsimp only at U hl htd |-
    by_cases hm:l.length % 2=0
    .have U:=U.trans (SY (.inl hm))
     refine Ag (Ai Ab ?_)
     have hm':=Kb.2 hm
     repeat' ((conv=>whnf);first|exact BH|(refine AA ?_;intros)|(refine BI ?_ ?_ ?_;rotate_left)|(refine AB ?_ ?_<;>intro _)|refine B2 (λ_=>?_) ?_|refine Ws Do ?_|with_reducible refine WF ?_)
     all_goals exact AY rfl (h2 U _ (St.le_refl _))
    .have hm':=λe=>hm (Kb.1 e)
     refine Ag (Ai Ab ?_)
     repeat' ((conv=>whnf);first|exact BH|(refine AA ?_;intros)|(refine BI ?_ ?_ ?_;rotate_left)|(refine AB ?_ ?_<;>intro _)|refine B2 (λ_=>?_) ?_|refine Ws Do ?_|with_reducible refine WF ?_)
     refine Ai Ab ?_
     repeat' ((conv=>whnf);first|exact BH|(refine AA ?_;intros)|(refine BI ?_ ?_ ?_;rotate_left)|(refine AB ?_ ?_<;>intro _)|refine B2 (λ_=>?_) ?_|with_reducible refine WF ?_)
     refine Dc (α:=Nat×AE×List UInt8×List Fx) (λy=>[(8,.slice 3 (A4 y.2.2.2) y.2.1),(76,.int .i64 (y.1:Nat))]) [4,74,75] (λy=>[(1,[.str y.2.2.1,.int .i64 (EZ a),.int .i64 p])]) [] (λy=>y.2.1.st st (y.2.2.2.length*3)) (λy=>y.1<=l.length/\y.2.1.BD st/\y.2.2.2.length<=y.1/\JV (EZ a) p false l []=JV (EZ a) p (y.1 % 2==1) (l.drop y.1) y.2.2.2) (λy=>l.length - y.1) (0,.full,[],[]) ⟨Nat.zero_le _,trivial,Nat.zero_le _,rfl⟩ Yl (St.le_refl _) ?_
     rintro ⟨i,w,op,acc⟩ ⟨j1,j2,j3,j4⟩
     dsimp only at j1 j2 j3 j4 |-
     by_cases hlt:i<l.length
     .obtain ⟨x,hx⟩:∃x,l[(i:Int).toNat]? =some x:=⟨_,List.getElem?_eq_getElem hlt⟩
      rw [drop_at (show l[i]? =some x from hx)] at j4
      have hxt:=EE (List.mem_of_getElem? hx)
      have hli:(i:Int)<(l.length:Int):=AC
      by_cases hodd:i % 2=1
      .have hod':=Pq.2 hodd
       rw [show (i % 2==1)=true by simp [hodd],JV] at j4
       by_cases hc:x.kind=1/\x.form=15/\x.text=[44]
       .rw [if_pos hc] at j4
        obtain ⟨hc1,hc2,hc3⟩:=hc
        repeat' ((conv=>whnf);first|refine Wv hli ?_|exact BH|(refine AA ?_;intros)|(refine BI ?_ ?_ ?_;rotate_left)|(refine AB ?_ ?_<;>intro _)|refine B2 (λ_=>?_) ?_|refine Wm hx AC ?_|refine Ws Do ?_|refine Wq (a:=(i:Int)+1) AC AC ?_|with_reducible refine WF ?_)
        all_goals conv=>whnf
        all_goals exact ⟨(i+1,w,op,acc),⟨hlt,j2,So,by rw [j4];dsimp only;rw [show ((i+1) % 2==1)=false by simp;omega]⟩,Nat.sub_lt_sub_left hlt (Nat.lt_succ_self i),Yl,St.le_refl _⟩
       .rw [if_neg hc] at j4
        have U:=U.trans (SY (.inr j4))
        repeat' ((conv=>whnf);first|refine Wv hli ?_|exact BH|(refine AA ?_;intros)|(refine BI ?_ ?_ ?_;rotate_left)|(refine AB ?_ ?_<;>intro _)|refine B2 (λ_=>?_) ?_|refine Wm hx AC ?_|refine Ws Do ?_|with_reducible refine WF ?_)
        all_goals first|exact AY rfl (h2 U _ (AE.Bz j2))|exact absurd ⟨FS,FS,FS⟩ hc
      .have hev':=λe=>hodd (Pq.1 e)
       rw [show (i % 2==1)=false by simp;omega,JV] at j4
       cases hn:Je x with
       |some t=>
        rw [hn] at j4
        have hnm:∀{st:St} {R:Au->St->Prop},R (.ret (.Bp [.str t,.bool true])) st->PC 137 [enc x] st R:=λh=>WR AC (λt' e=>by rw [hn] at e;cases e;exact h) (λe=>by rw [hn] at e;cases e)
        repeat' ((conv=>whnf);first|refine Wv hli ?_|exact BH|(refine AA ?_;intros)|(refine BI ?_ ?_ ?_;rotate_left)|(refine AB ?_ ?_<;>intro _)|refine B2 (λ_=>?_) ?_|refine Wm hx AC ?_|refine Ws Do ?_|refine hnm ?_|refine kD (x:=⟨t,EZ a,p⟩) j2 AC (λown1 ho1=>?_)|refine Wq (a:=(i:Int)+1) AC AC ?_|with_reducible refine WF ?_)
        all_goals conv=>whnf
        all_goals exact ⟨(i+1,own1,t,acc++[⟨t,EZ a,p⟩]),⟨hlt,ho1,by dsimp only;rw [List.length_append,List.length_singleton];omega,by rw [j4];dsimp only;rw [show ((i+1) % 2==1)=true by simp;omega]⟩,Nat.sub_lt_sub_left hlt (Nat.lt_succ_self i),Yl,St.le_refl _⟩
       |none=>
        rw [hn] at j4
        have U:=U.trans (SY (.inr j4))
        have hnm:∀{st:St} {R:Au->St->Prop},R (.ret (.Bp [.str [],.bool false])) st->PC 137 [enc x] st R:=λh=>WR AC (λt' e=>by rw [hn] at e;cases e) (λ_=>h)
        repeat' ((conv=>whnf);first|refine Wv hli ?_|exact BH|(refine AA ?_;intros)|(refine BI ?_ ?_ ?_;rotate_left)|(refine AB ?_ ?_<;>intro _)|refine B2 (λ_=>?_) ?_|refine Wm hx AC ?_|refine Ws Do ?_|refine hnm ?_|with_reducible refine WF ?_)
        all_goals exact AY rfl (h2 U _ (AE.Bz j2))
     .rw [List.drop_of_length_le AC,Ze] at j4
      have U:=U.trans (oI hm j4)
      have hli:¬(i:Int)<(l.length:Int):=AC
      repeat' ((conv=>whnf);first|refine Ww hli ?_|exact BH|(refine AA ?_;intros)|(refine BI ?_ ?_ ?_;rotate_left)|(refine AB ?_ ?_<;>intro _)|refine B2 (λ_=>?_) ?_|with_reducible refine WF ?_)
      all_goals exact AY rfl (h1 _ U _ (AE.Bz j2))
  .have U:=tA hks hk
   refine Ag (Ai Ab ?_)
   repeat' ((conv=>whnf);first|refine Wm ha Do ?_|exact BH|(refine AA ?_;intros)|(refine BI ?_ ?_ ?_;rotate_left)|(refine AB ?_ ?_<;>intro _)|refine B2 (λ_=>?_) ?_|refine VM ?_|with_reducible refine WF ?_)
   all_goals first|exact AY rfl (h2 U _ (St.le_refl _))|(exfalso;omega)
end
theorem Path.mu {s t:Aj} {l:List Tk} (h:Path s l t):Proofs.Z.mu t+l.length<=Proofs.Z.mu s:=by
 induction h with
 |nil s=>exact Nat.le_refl _
 |cons U h2 _ ih=>rw [List.length_cons];omega
theorem Hk (l:List Tk):(AV l).length=l.length:=by unfold AV;rw [List.length_map]
theorem vV {l:List Tk} {x:Tk} {own:AE} {st:St} (h:own.BD st) (hb:l.length+1<=1000000000)
 (k:∀U:AE,U.BD st->K (.slice 4 (AV (l++[x])) U) (U.st st ((l++[x]).length*4))):Am 4 40 (AV l) own [x.cells] (own.st st (l.length*4)) K:=by
 have:=EI (sz:=4) (bytes:=40) (es:=AV l) (new:=[x.cells]) (K:=K) h (by rw [Hk];show (l.length+1)*40<=_;omega) (by rw [Hk];show l.length+1<DG;simp only [DG];omega) rfl (λU ho=>by
  have:=k U ho
  rw [Hk]
  have e:AV l++[x.cells].map (·.map V.JB)=AV (l++[x]):=by unfold AV;rw [List.map_append];rfl
  rw [e]
  rw [List.length_append] at this
  exact this)
 rw [Hk] at this
 exact this
def iE (st:St) (bo:Nat) (l:List Tk) (own:AE):St:=own.st (st.Aa bo [.slice 4 (AV l) own]) (l.length*4)
theorem W5 {own:AE} {st:St} {n:Nat}:(own.st st n).box b=st.box b:=by cases own<;>rfl
theorem ef {own:AE} {st:St} (hb:st.box b≠none) (h:own.BD st):own.BD (st.Aa b cs):=by
 cases own with
 |any=>exact h
 |full=>trivial
 |tok t=>
  have:b≠t:=λe=>by subst e;exact hb h.1
  exact ⟨by rw [St.Ak this];exact h.1,h.2⟩
theorem mG {own:AE} {st:St} (h:own.BD (st.Aa b cs)):own.BD st:=by
 cases own with
 |any=>exact h
 |full=>trivial
 |tok t=>exact (AX h).2
theorem nM {st:St} {l:List Tk} {own:AE}:(iE st bo l own).box bo=some [.slice 4 (AV l) own]:=by unfold iE;rw [W5,St.Ah]
theorem sS {st:St} {l:List Tk} {own:AE} (h:bo≠b):(iE st bo l own).box b=st.box b:=by unfold iE;rw [W5,St.Ak h]
theorem sT {st:St} {l l':List Tk} {own U:AE}:(U.st (st.Aa bo [.slice 4 (AV l) own]) (l'.length*4)).Aa bo [.slice 4 (AV l') U]=iE st bo l' U:=by
 rw [W6,St.set_set];rfl
theorem bT (h:¬n.kind=1):A7 n=AF n.kids:=by
 cases n with
 |mk a b c d e ks=>rw [A7,if_neg (show ¬a=1 from h)];rfl
theorem bU (h:n.kind=1):A7 n=[⟨n.form,n.text,n.line,n.Cg⟩]:=by
 cases n with
 |mk a b c d e ks=>rw [A7,if_pos (show a=1 from h)];rfl
theorem L6 (h:l[k]? =some x):AF (l.take (k+1))=AF (l.take k)++A7 x:=by
 rw [List.take_add_one,h,Dg]
 show _++AF [x]=_
 rw [CO]
theorem PU (h:l[k]? =some x):(AF (l.take k)).length+(A7 x).length<=(AF l).length:=by
 have e:l=l.take (k+1)++l.drop (k+1):=(List.take_append_drop _ _).symm
 have:AF l=AF (l.take k)++A7 x++AF (l.drop (k+1)):=by
  conv=>lhs;rw [e]
  rw [Dg,L6 h]
 grind
section
variable {R:Au->St->Prop}
attribute [local irreducible] Go.Aw.Am
theorem im:∀(m:Nat) {n:Nd} {st:St} {bo bw:Nat} {l:List Tk} {own:AE} {R:Au->St->Prop},n.size<=m->bo≠bw->st.box bo≠none->st.box bw=some [.func 52 [] [.ptr bo 0,.ptr bw 0]]->own.BD st->l.length+(A7 n).length<=100000000->
 (∀own':AE,own'.BD st->R (.ret (.Bp [])) (iE st bo (l++A7 n) own'))->PC 52 [enc n,.ptr bo 0,.ptr bw 0] (iE st bo l own) R:=by
 intro m
 induction m with
 |zero=>intro n st bo bw l own R hm;cases n;rw [Nd.size] at hm;omega
 |succ m ih=>
  intro n st bo bw l own R hm hne hb hw hg hl h
  refine pB Tryz.func52 ?_
  by_cases hk:n.kind=1
  .rw [bU hk] at h hl
   have hn:l.length+1<=1000000000:=by simp only [List.length_singleton] at hl;omega
   repeat' ((conv=>whnf);first|(refine AA ?_;intros)|(refine AB ?_ ?_<;>intro _)|refine An nM ?_|refine vV (st:=st.Aa bo [.slice 4 (AV l) own]) (l:=l) (x:=⟨n.form,n.text,n.line,n.Cg⟩) (ef hb hg) hn (λU ho1=>?_)|refine An (by rw [W5,St.Ah]) ?_)
   all_goals exact bz rfl sT (h U (mG ho1))
  .rw [bT hk] at h hl
   repeat' ((conv=>whnf);first|(refine AA ?_;intros)|(refine AB ?_ ?_<;>intro _)|fail)
   refine Dc (α:=Nat×AE) (λx=>[(24,.int .i64 (x.1:Nat))]) [22,23,1,2] (λx=>[]) [] (λx=>iE st bo (l++AF (n.kids.take x.1)) x.2) (λx=>x.2.BD st/\x.1<=n.kids.length) (λx=>n.kids.length - x.1) (0,own) ⟨hg,Nat.zero_le _⟩ Yl
    (by show St.le (iE st bo (l++AF (n.kids.take 0)) own) _;rw [List.take_zero,AF,List.append_nil];exact St.le_refl _) ?_
   rintro ⟨k,U⟩ ⟨j1,j2⟩
   dsimp only at j1 j2
   by_cases hlt:k<n.kids.length
   .obtain ⟨x,hx⟩:∃x,n.kids[(k:Int).toNat]? =some x:=⟨_,List.getElem?_eq_getElem hlt⟩
    have hx':n.kids[k]? =some x:=hx
    have hxs:=Cp (List.mem_of_getElem? hx')
    have hle:=PU hx'
    have hll:∀k x,n.kids[k]? =some x->(l++AF (n.kids.take k)).length+(A7 x).length<=100000000:=λk x e=>by have:=PU e;grind
    have hW:(iE st bo (l++AF (n.kids.take k)) U).box bw=some [.func 52 [] [.ptr bo 0,.ptr bw 0]]:=by rw [sS hne];exact hw
    repeat' ((conv=>whnf);first|(refine AA ?_;intros)|(refine AB ?_ ?_<;>intro _)|refine An hW ?_|refine ih (n:=x) (l:=l++AF (n.kids.take k)) AC hne hb hw j1 (hll k x hx') (λown2 ho2=>?_)|refine Wq (a:=(k:Int)+1) AC AC ?_)
    all_goals conv=>whnf
    all_goals exact ⟨(k+1,own2),⟨ho2,hlt⟩,Nat.sub_lt_sub_left hlt (Nat.lt_succ_self k),Yl,by
     show St.le (iE st bo (l++AF (n.kids.take (k+1))) own2) _
     rw [L6 hx',<-List.append_assoc]
     exact St.le_refl _⟩
   .have hk2:k=n.kids.length:=AC
    repeat' ((conv=>whnf);first|(refine AA ?_;intros)|(refine AB ?_ ?_<;>intro _)|fail)
    all_goals exact bz rfl (by rw [hk2,List.take_length]) (h U j1)
theorem mo {l:List Tk} {own:AE}:Au.ret (.slice 4 (AV l) .any)=(Au.ret (.slice 4 (AV l) own)).wk:=rfl
theorem iq {st:St} {bw:Nat} (hne:bo≠bw) (hb:st.box bo=some [.slice 4 [] .full]) (hw:st.box bw=some [.func 52 [] [.ptr bo 0,.ptr bw 0]]) (hl:(A7 n).length<=100000000)
 (h:∀U:AE,U.BD st->R (.ret (.Bp [])) (iE st bo (A7 n) U)):PC 52 [enc n,.ptr bo 0,.ptr bw 0] st R:=by
 have:=im n.size (n:=n) (st:=st) (bo:=bo) (bw:=bw) (l:=[]) (own:=.full) (R:=R) (Nat.le_refl _) hne i7 hw trivial i7 h
 rw [show iE st bo [] .full=st from St.KX hb] at this
 omega
theorem KN {st:St} (hl:(A7 n).length<=100000000) (h:R (.ret (.slice 4 (AV (A7 n)) .any)) st):PC 19 [enc n] st R:=by
 refine DH Ab [3,4] Tryz.func19 rfl Do ?_
 repeat' ((conv=>whnf);first|(refine AA ?_;intros)|(refine AB ?_ ?_<;>intro _)|refine B2 (λ_=>?_) ?_|refine DZ (λb f=>?_)|refine An (St.Ah ..) ?_)
 rename_i b1 f1
 have U:b1≠b:=(AX f).1
 have hfb:st.fresh b:=(AX (AX f).2).2
 repeat' ((conv=>whnf);first|(refine AA ?_;intros)|(refine AB ?_ ?_<;>intro _)|refine B2 (λ_=>?_) ?_|refine iq U (by rw [St.Ak U.symm,St.Ak U.symm,St.Ah]) (St.Ah ..) hl (λown1 ho1=>?_)|refine An nM ?_)
 all_goals refine EJ ?_ mo h
 all_goals exact St.le_trans (St.Af (St.Af (St.Af (St.Af (St.Af (St.le_refl st) f1.1 _) f1.1 _) hfb.1 _) hfb.1 _) f1.1 _) (AE.Bz (ef (by rw [St.Ak U.symm,St.Ak U.symm,St.Ah];exact λe=>by cases e) ho1))
end
structure kr (st m:St) (o:AE) (l:List Fx):Prop where
 le:st.le m
 ok:match o with| .full=>True| .any=>False| .tok b=>st.fresh b/\m.hw b=some (l.length*3)
theorem NK {st m:St} (h:st.le m) (hb:m.fresh b):st.fresh b:=by
 refine ⟨?_,?_⟩
 .cases e:st.box b with
  |none=>rfl
  |some c=>have:=h.1 b c e;rw [hb.1] at this;cases this
 .cases e:st.hw b with
  |none=>rfl
  |some c=>have:=h.2 b c e;rw [hb.2] at this;cases this
theorem kr.grow {st m U:St} {l:List Fx} (h:kr st m o l) (k:m.le U):kr st U o l:=⟨St.le_trans h.le k,by
 have:=h.ok
 cases o with
 |full=>trivial
 |any=>exact this
 |tok b=>exact ⟨this.1,k.2 _ _ this.2⟩⟩
theorem kr.app {st m:St} {l:List Fx} {x:Fx} (h:kr st m o l) (hb:l.length+1<=1000000000)
 (k:∀o' m',kr st m' o' (l++[x])->K (.slice 3 (A4 (l++[x])) o') m'):Am 3 32 (A4 l) o [x.cells] m K:=by
 have el:∀l:List Fx,(A4 l).length=l.length:=λl=>List.length_map ..
 have e:A4 l++[x.cells].map (·.map V.JB)=A4 (l++[x]):=by unfold A4;rw [List.map_append];rfl
 have hl:(l++[x]).length*3=((A4 l).length+[x.cells].length)*3:=by rw [el,List.length_append];rfl
 refine ⟨by rw [el];show (l.length+1)*32<=_;omega,by rw [el];show l.length+1<DG;simp only [DG];omega,AH rfl ?_⟩
 cases o with
 |any=>exact h.ok.elim
 |full=>exact ⟨λe=>(by cases e),λ_=>.inl λb hf=>by
   rw [e]
   exact k _ _ ⟨St.Fk h.le (NK h.le hf).2 _,NK h.le hf,by rw [hl];simp [St.BZ]⟩⟩
 |tok b=>
  obtain ⟨h1,h2⟩:=h.ok
  refine ⟨by rw [el];exact h2,.inl λb' hf=>?_⟩
  rw [e]
  have hld:st.le (m.Ew b):=⟨h.le.1,λy c hy=>by
   have hyb:y≠b:=λe=>by subst e;rw [h1.2] at hy;cases hy
   show (if y=b then none else m.hw y)=some c
   rw [if_neg hyb]
   exact h.le.2 _ _ hy⟩
  have U:st.fresh b':=hf.elim (λe=>e ▸ h1) (λe=>NK h.le e)
  exact k _ _ ⟨St.Fk hld U.2 _,U,by rw [hl];simp [St.BZ]⟩
theorem fT {l:List Fx} {st:St} (hb:l.length<=900000000) (k:∀o m,kr st m o l->K (.slice 3 (A4 l) o) m):Am 3 32 [] .full (A4 l) st K:=by
 have el:(A4 l).length=l.length:=List.length_map ..
 have e:(A4 l).map (·.map V.JB)=A4 l:=by
  unfold A4
  rw [List.map_map]
  exact List.map_congr_left λx _=>rfl
 have hs:((A4 l).all λv=>v.all V.sc)=true:=by
  unfold A4
  rw [List.all_map,List.all_eq_true]
  intro x _;rfl
 refine ⟨by rw [el];show (0+l.length)*32<=_;omega,by rw [el];show 0+l.length<DG;simp only [DG];omega,AH hs ⟨λe0=>?_,λ_=>.inl λb U=>?_⟩⟩
 .have:l=[]:=by simpa [A4] using e0
  subst this
  exact k _ _ ⟨St.le_refl _,trivial⟩
 .rw [e,List.nil_append]
  exact k _ _ ⟨St.Fk (St.le_refl _) U.2 _,U,by rw [el,List.length_nil,Nat.zero_add];simp [St.BZ]⟩
theorem Rn {b:Bool} {p q:Prop} (e:b=true) (h:p):Bn b p q:=e ▸ Wi h
theorem Uc {b:Bool} {p q:Prop} (e:b=false) (h:q):Bn b p q:=e ▸ Wj h
def zy (f:Ft):List V:=[.int .i64 f.1,.int .i64 f.2.1,.int .i64 f.2.2]
structure fK (st m:St) (b:Nat) (f:Ft):Prop where
 le:st.le m
 box:m.box b=some (zy f)
 new:st.box b=none
theorem fK.up {a st m:St} {f:Ft} (h:fK st m b f) (k:a.le st):fK a m b f:=⟨St.le_trans k h.le,h.box,by
 cases e:a.box b with
 |none=>rfl
 |some c=>have:=k.1 b c e;rw [h.new] at this;cases this⟩
abbrev qx (b:Nat):V:=.iface 91 (.ptr b 0)
section
variable {st:St} {R:Au->St->Prop}
attribute [local irreducible] Go.Aw.Am
theorem vY {e:Int} (hl:(A7 n).length<=100000000) (h:∀b st',fK st st' b (yl n e)->R (.ret (qx b)) st'):PC 92 [enc n,.int .i64 e] st R:=by
 refine DH Ab [9] Tryz.func92 rfl Do ?_
 unfold yl pL at h
 cases hv:A7 n with
 |nil=>
  rw [hv] at h
  have U:∀{st:St} {R:Au->St->Prop},R (.ret (.slice 4 (AV []) .any)) st->PC 19 [enc n] st R:=λh=>KN hl (by rw [hv];exact h)
  repeat' ((conv=>whnf);first|refine OU (n:=0) rfl ?_|exact BH|(refine AA ?_;intros)|(refine BI ?_ ?_ ?_;rotate_left)|(refine AB ?_ ?_<;>intro _)|refine DZ (λb fb=>?_)|refine U ?_|with_reducible refine WF ?_)
  all_goals exact AY rfl (h _ _ ⟨St.Af (St.le_refl _) (by assumption:st.fresh _).1 _,St.Ah ..,(by assumption:st.fresh _).1⟩)
 |cons t r=>
  rw [hv] at h
  have U:∀{st:St} {R:Au->St->Prop},R (.ret (.slice 4 (AV (t::r)) .any)) st->PC 19 [enc n] st R:=λh=>KN hl (by rw [hv];exact h)
  have hpos:(0:Int)<((r.length+1:Nat):Int):=AC
  repeat' ((conv=>whnf);first|refine OU (n:=r.length+1) (List.length_map ..) ?_|refine Wv hpos ?_|refine WB (l:=t::r) rfl Do ?_|exact BH|(refine AA ?_;intros)|(refine BI ?_ ?_ ?_;rotate_left)|(refine AB ?_ ?_<;>intro _)|refine DZ (λb fb=>?_)|refine U ?_|refine Al (St.Ah ..) ?_|refine Ad [(0,true),(1,true),(2,true),(3,true),(4,true),(5,true),(6,true),(7,true),(8,true),(9,true),(10,true),(11,true),(12,false),(13,true),(14,true),(15,false)] [] GE ?_|with_reducible refine WF ?_)
  all_goals exact AY rfl (h _ _ ⟨by simp only [St.set_set];exact St.Af (St.le_refl _) (by assumption:st.fresh _).1 _,St.Ah ..,(by assumption:st.fresh _).1⟩)
theorem QJ {i:Int} (h:R (.ret (.slice 6 (BL (if 0<=i then Ei n i.toNat else [])) .any)) st):PC 132 [enc n,.int .i64 i] st R:=by
 refine pB Tryz.func132 ?_
 by_cases U:0<=i
 .rw [if_pos U] at h
  unfold Ei at h
  by_cases hlt:i<n.kids.length
  .obtain ⟨x,hx⟩:∃x,n.kids[i.toNat]? =some x:=⟨_,List.getElem?_eq_getElem AC⟩
   rw [hx] at h
   dsimp only at h
   by_cases hk:x.kind=2
   .rw [if_pos hk] at h
    repeat' ((conv=>whnf);first|(refine AA ?_;intros)|(refine AB ?_ ?_<;>intro _)|refine B2 (λ_=>?_) ?_|refine Wm hx U ?_)
    all_goals exact AY rfl h
   .rw [if_neg hk] at h
    repeat' ((conv=>whnf);first|(refine AA ?_;intros)|(refine AB ?_ ?_<;>intro _)|refine B2 (λ_=>?_) ?_|refine Wm hx U ?_)
    all_goals exact AY rfl h
  .rw [List.getElem?_eq_none AC] at h
   repeat' ((conv=>whnf);first|(refine AA ?_;intros)|(refine AB ?_ ?_<;>intro _)|refine B2 (λ_=>?_) ?_|fail)
   all_goals exact AY rfl h
 .rw [if_neg U] at h
  repeat' ((conv=>whnf);first|(refine AA ?_;intros)|(refine AB ?_ ?_<;>intro _)|refine B2 (λ_=>?_) ?_|fail)
  all_goals exact AY rfl h
theorem Sw (n:Nd):(if 0<=(n.kids.length:Int) - 1 then Ei n ((n.kids.length:Int) - 1).toNat else [])=GW n:=by
 unfold GW Ei
 rw [List.getLast?_eq_getElem?]
 by_cases h:n.kids.length=0
 .rw [if_neg AC,List.getElem?_eq_none AC]
 .rw [if_pos AC,show ((n.kids.length:Int) - 1).toNat=n.kids.length - 1 by omega]
theorem ng {i:Int} (hi:i=(n.kids.length:Int) - 1) (h:R (.ret (.slice 6 (BL (GW n)) .any)) st):PC 132 [enc n,.int .i64 i] st R:=by
 subst hi
 exact QJ (by rw [Sw];exact h)
theorem fG (h:R (.ret (.slice 6 (BL (Hd n)) .any)) st):PC 133 [enc n] st R:=by
 refine pB Tryz.func133 ?_
 unfold Hd at h
 rw [List.getLast?_eq_getElem?] at h
 by_cases h0:n.kids.length=0
 .rw [List.getElem?_eq_none AC] at h
  repeat' ((conv=>whnf);first|(refine AA ?_;intros)|(refine AB ?_ ?_<;>intro _)|refine B2 (λ_=>?_) ?_|fail)
  all_goals exact AY rfl h
 .obtain ⟨x,U⟩:∃x,n.kids[((n.kids.length:Int) - 1).toNat]? =some x:=⟨_,List.getElem?_eq_getElem AC⟩
  rw [show n.kids[n.kids.length - 1]? =some x by rw [<-U];congr 1;omega] at h
  dsimp only at h
  by_cases hk:x.kind=31
  .rw [if_pos hk] at h
   repeat' ((conv=>whnf);first|(refine AA ?_;intros)|(refine AB ?_ ?_<;>intro _)|refine B2 (λ_=>?_) ?_|refine Wm U AC ?_|refine ng rfl ?_)
   all_goals exact AY rfl h
  .rw [if_neg hk] at h
   repeat' ((conv=>whnf);first|(refine AA ?_;intros)|(refine AB ?_ ?_<;>intro _)|refine B2 (λ_=>?_) ?_|refine Wm U AC ?_)
   all_goals exact AY rfl h
theorem lz {l:List Fx} {own:AE} (hb:l.length<=900000000) (h:∀o m,kr st m o l->R (.ret (.slice 3 (A4 l) o)) m):PC 174 [.slice 3 (A4 l) own] st R:=by
 refine pB Tryz.func174 ?_
 repeat' ((conv=>whnf);first|(refine AA ?_;intros)|(refine AB ?_ ?_<;>intro _)|refine B2 (λ_=>?_) ?_|fail)
 .have:l=[]:=by simpa [A4] using ‹A4 l=[]›
  subst this
  exact fin (h .full _ ⟨St.le_refl _,trivial⟩) rfl
 .exact fT hb λo m U=>fin (h o m U) rfl
theorem fA {f g:Fx} (hb:st.box b=some f.cells) (h:R (.ret (.bool (g.op==f.op))) st):PC 177 [.agg g.cells,.ptr b 0] st R:=by
 refine pB Tryz.func177 ?_
 repeat' ((conv=>whnf);first|(refine AA ?_;intros)|(refine AB ?_ ?_<;>intro _)|refine Al hb ?_)
 all_goals conv=>whnf
 all_goals (refine Av h ?_;clear h;simp_all)
def PQ (p:Fx->Bool):List Fx->Nat->Int
 |[],_=> -1
 |x::r,i=>if p x then (i:Int) else PQ p r (i+1)
theorem Ut {p:Fx->Bool}:∀{l:List Fx} {i:Nat},decide (0<=PQ p l i)=l.any p
 |[],i=>rfl
 |x::r,i=>by
  rw [PQ,List.any_cons]
  cases h:p x with
  |true=>simp
  |false=>simpa [h] using Ut (l:=r)
theorem wL {f:Fx} {l:List Fx} {own:AE} (hb:st.box b=some f.cells) (h:R (.ret (.int .i64 (PQ (λg=>g.op==f.op) l 0))) st):PC 213 [.slice 3 (A4 l) own,.func 177 [] [.ptr b 0]] st R:=by
 refine pB Tryz.func213 ?_
 repeat' ((conv=>whnf);first|(refine AA ?_;intros)|(refine AB ?_ ?_<;>intro _)|refine Dw (λ_=>?_))
 refine KO 8 [6,7,0,1] l.length (λk=>k<=l.length/\PQ (λg=>g.op==f.op) l 0=PQ (λg=>g.op==f.op) (l.drop k) k) ⟨Nat.zero_le _,rfl⟩ Yl ?_
 rintro k ⟨hk,hi⟩
 by_cases U:k<l.length
 .obtain ⟨x,hx⟩:∃x,l[(k:Int).toNat]? =some x:=⟨_,List.getElem?_eq_getElem U⟩
  rw [drop_at (show l[k]? =some x from hx),PQ] at hi
  cases ht:x.op==f.op with
  |true=>
   rw [ht,if_pos rfl] at hi
   rw [hi] at h
   repeat' ((conv=>whnf);first|refine Rn ht ?_|(refine AA ?_;intros)|(refine AB ?_ ?_<;>intro _)|refine F4 hx AC ?_|refine fA hb ?_)
   all_goals exact fin h rfl
  |false=>
   rw [ht,if_neg Do] at hi
   repeat' ((conv=>whnf);first|refine Uc ht ?_|(refine AA ?_;intros)|(refine AB ?_ ?_<;>intro _)|refine F4 hx AC ?_|refine fA hb ?_|refine Wq (a:=(k:Int)+1) AC AC ?_)
   all_goals conv=>whnf
   all_goals exact ⟨k+1,⟨U,hi⟩,Nat.sub_lt_sub_left U (Nat.lt_succ_self k),Yl,St.le_refl _⟩
 .rw [List.drop_of_length_le AC,PQ] at hi
  rw [hi] at h
  repeat' ((conv=>whnf);first|(refine AA ?_;intros)|(refine AB ?_ ?_<;>intro _)|fail)
  all_goals exact fin h rfl
theorem kC {f:Fx} {l:List Fx} {own:AE} (hb:st.box b=some f.cells) (h:R (.ret (.bool (l.any λg=>g.op==f.op))) st):PC 176 [.slice 3 (A4 l) own,.func 177 [] [.ptr b 0]] st R:=by
 refine pB Tryz.func176 ?_
 refine wL hb ?_
 have key:=Ut (p:=λg=>g.op==f.op) (l:=l) (i:=0)
 rw [<-key] at h
 refine Wh (λU=>?_) (λU=>?_)
 .rw [decide_eq_true U] at h;exact fin h rfl
 .rw [decide_eq_false U] at h;exact fin h rfl
end
theorem SZ {s p:Int}:∀{l:List Nd} {b:Bool} {U m:List Fx},JV s p b l U=some m->m.length<=U.length+l.length
 |[],b,U,m,h=>by
  rw [Ze] at h
  cases h;exact Nat.le_add_right _ _
 |n::r,false,U,m,h=>by
  rw [JV] at h
  split at h
  .have:=SZ h
   rw [List.length_append,List.length_singleton] at this
   rw [List.length_cons];omega
  .cases h
 |n::r,true,U,m,h=>by
  rw [JV] at h
  split at h
  .have:=SZ h
   rw [List.length_cons];omega
  .cases h
theorem Zd {s:Int} {m:List Fx} (h:JU s p l=.inr m):m.length<=l.length:=by
 unfold JU at h
 split at h
 .cases h
 .split at h
  .rename_i e
   cases h
   simpa using SZ e
  .cases h
theorem Zc {s e:Int} (h:JU s p l=.inl e):e=120:=by
 unfold JU at h
 split at h
 .cases h;rfl
 .split at h
  .cases h
  .cases h;rfl
theorem eN {e:Int} (h:Ks n=.inl e):e=120:=by
 unfold Ks at h
 split at h
 .split at h
  .split at h
   .split at h
    .exact Zc h
    .cases h;rfl
   .exact Zc h
  .cases h;rfl
 .cases h;rfl
theorem eO {m:List Fx} (h:Ks n=.inr m):m.length<=n.size:=by
 have hs:=Jr n
 unfold Ks at h
 split at h
 .rename_i U
  rw [U,List.length_cons,List.length_cons] at hs
  split at h
  .split at h
   .split at h
    .have:=Zd h;omega
    .cases h
   .have:=Zd h
    rw [List.length_cons] at this;omega
  .cases h
 .cases h
theorem XS {frm:Nat}:∀{l env m:List Fx},XR frm l env=some m->m.length=env.length+l.length
 |[],env,m,h=>by cases h;rfl
 |f::r,env,m,h=>by
  rw [XR] at h
  split at h
  .cases h
  .have:=XS h
   rw [List.length_append,List.length_singleton] at this
   rw [List.length_cons];omega
theorem Di {frm:Nat}:∀{l:List Nd} {env m:List Fx},E2 frm l env=.inr m->env.length<=m.length/\m.length<=env.length+AD l
 |[],env,m,h=>by cases h;exact ⟨Nat.le_refl _,Nat.le_add_right _ _⟩
 |n::r,env,m,h=>by
  rw [E2] at h
  rw [AD]
  split at h
  .split at h
   .cases h
   .rename_i l hl
    split at h
    .cases h
    .rename_i U he
     have h1:=eO hl
     have h2:=XS he
     have h3:=Di h
     omega
  .have h3:=Di h
   omega
theorem J7 (h:l[i]? =some x):AD (l.drop i)=x.size+AD (l.drop (i+1)):=by
 rw [drop_at h,AD]
theorem ZG {l:List Fx} {K:List (List V)->Prop} (h:frm<=l.length) (k:K (A4 (l.drop frm))):
 (0<=(frm:Int)/\(frm:Int)<=((A4 l).length:Int)/\((A4 l).length:Int)<=(A4 l).length)/\∀U,U=(((A4 l).take (((A4 l).length:Int)).toNat).drop (frm:Int).toNat)->K U:=by
 have el:(A4 l).length=l.length:=List.length_map ..
 refine ⟨⟨AC,AC,Int.le_refl _⟩,λU e=>?_⟩
 simp only [Int.toNat_natCast,List.take_length] at e
 subst e
 unfold A4 at k |-
 rw [<-List.map_drop]
 exact k
structure uQ (st:St) (R:Au->St->Prop) (z:Sum Ft (List Fx)):Prop where
 ok:∀env,z=.inr env->∀m,st.le m->R (.ret (.Bp [.slice 3 (A4 env) .any,.Dt])) m
 no:∀f,z=.inl f->∀b m,fK st m b f->R (.ret (.Bp [.slice 3 [] .any,qx b])) m
theorem uQ.inr {st:St} {R:Au->St->Prop} {z:Sum Ft (List Fx)} {env:List Fx} (hz:z=.inr env) (h:∀m,st.le m->R (.ret (.Bp [.slice 3 (A4 env) .any,.Dt])) m):uQ st R z:=
 ⟨λe U=>(by rw [hz] at U;cases U;exact h),λf U=>(by rw [hz] at U;cases U)⟩
theorem uQ.inl {st:St} {R:Au->St->Prop} {z:Sum Ft (List Fx)} {f:Ft} (hz:z=.inl f) (h:∀b m,fK st m b f->R (.ret (.Bp [.slice 3 [] .any,qx b])) m):uQ st R z:=
 ⟨λe U=>(by rw [hz] at U;cases U),λf U=>(by rw [hz] at U;cases U;exact h)⟩
section
variable {st:St} {R:Au->St->Prop}
attribute [local irreducible] Go.Aw.Am
theorem Pj (hf:frm<=env.length) (hn:env.length+AD l<=900000000) (hs:AD l<=100000000) (ht:BC l<=100000000)
 (h:uQ st R (E2 frm l env)):PC 131 [.slice 3 (A4 env) o,.int .i64 (frm:Nat),.slice 6 (BL l) .any] st R:=by
 obtain ⟨h1,h2⟩:=h
 refine DH Ab [13] Tryz.func131 rfl Do ?_
 repeat' ((conv=>whnf);first|(refine AA ?_;intros)|(refine AB ?_ ?_<;>intro _)|refine B2 (λ_=>?_) ?_|refine lz AC (λo1 m1 hx1=>?_))
 refine Dc (α:=Nat×AE×List Fx×St) (λy=>[(0,.slice 3 (A4 y.2.2.1) y.2.1),(18,.int .i64 (y.1:Nat))]) [1,16,17] (λ_=>[]) [] (λy=>y.2.2.2) (λy=>y.1<=l.length/\kr st y.2.2.2 y.2.1 y.2.2.1/\E2 frm l env=E2 frm (l.drop y.1) y.2.2.1/\frm<=y.2.2.1.length/\y.2.2.1.length+AD (l.drop y.1)<=900000000) (λy=>l.length - y.1) (0,o1,env,m1) ⟨Nat.zero_le _,hx1,rfl,hf,hn⟩ Yl (St.le_refl _) ?_
 rintro ⟨i,o2,e2,m2⟩ ⟨j1,j2,j3,j4,j5⟩
 dsimp only at j1 j2 j3 j4 j5
 rw [j3] at h1 h2
 by_cases hlt:i<l.length
 .obtain ⟨x,hx⟩:∃x,l[(i:Int).toNat]? =some x:=⟨_,List.getElem?_eq_getElem hlt⟩
  have hx':l[i]? =some x:=hx
  have hxt:=EE (List.mem_of_getElem? hx)
  rw [J7 hx'] at j5
  have hxl:=Hr x
  have hxs:=KZ (List.mem_of_getElem? hx)
  have hxk:=Jr x
  rw [drop_at hx',E2] at h1 h2 j3
  have hli:(i:Int)<(l.length:Int):=AC
  by_cases hk:x.kind=35
  .rw [if_pos hk] at h1 h2 j3
   cases U:Ks x with
   |inl e=>
    obtain rfl:=eN U
    rw [U] at h2
    have hfo:∀{st:St} {R:Au->St->Prop},(∀st',st.le st'->R (.ret (.Bp [.slice 3 [] .any,.int .i64 120])) st')->PC 175 [enc x] st R:=λh=>vl AC (λl e=>by rw [U] at e;cases e) (λ_=>h) AC
    repeat' ((conv=>whnf);first|refine Wv hli ?_|(refine AA ?_;intros)|(refine AB ?_ ?_<;>intro _)|refine B2 (λ_=>?_) ?_|refine Wm hx AC ?_|refine hfo (λst1 hle1=>?_)|refine vY AC (λb st2 hb=>?_))
    all_goals exact AY rfl (h2 _ rfl _ _ (hb.up (St.le_trans j2.le hle1)))
   |inr fs=>
    rw [U] at h1 h2 j3
    dsimp only at h1 h2 j3
    have hfl:=eO U
    have hfo:∀{st:St} {R:Au->St->Prop},(∀st',st.le st'->R (.ret (.Bp [.slice 3 (A4 fs) .any,.int .i64 0])) st')->PC 175 [enc x] st R:=λh=>vl AC (λl e=>by rw [U] at e;cases e;exact h) (λe=>by rw [U] at e;cases e) AC
    repeat' ((conv=>whnf);first|refine Wv hli ?_|(refine AA ?_;intros)|(refine AB ?_ ?_<;>intro _)|refine B2 (λ_=>?_) ?_|refine Wm hx AC ?_|refine hfo (λst1 hle1=>?_)|refine Dw (λ_=>?_))
    have hx3:=j2.grow hle1
    refine Dc (α:=Nat×AE×List Fx×St) (λy=>[(0,.slice 3 (A4 y.2.2.1) y.2.1),(37,.int .i64 (y.1:Nat))]) [1,9,16,17,18,35,36] (λ_=>[]) [0] (λy=>y.2.2.2) (λy=>y.1<=fs.length/\kr st y.2.2.2 y.2.1 y.2.2.1/\XR frm fs e2=XR frm (fs.drop y.1) y.2.2.1/\y.2.2.1.length=e2.length+y.1) (λy=>fs.length - y.1) (0,o2,e2,st1) ⟨Nat.zero_le _,hx3,rfl,rfl⟩ Yl (St.le_refl _) ?_
    rintro ⟨j,o3,e3,m3⟩ ⟨i1,i2,i3,i4⟩
    dsimp only at i1 i2 i3 i4
    by_cases hjt:j<fs.length
    .obtain ⟨f,hf2⟩:∃f,fs[(j:Int).toNat]? =some f:=⟨_,List.getElem?_eq_getElem hjt⟩
     rw [drop_at (show fs[j]? =some f from hf2),XR] at i3
     have hji:(j:Int)<(fs.length:Int):=AC
     cases hany:(e3.drop frm).any (λg=>g.op==f.op) with
     |true=>
      rw [hany,if_pos rfl] at i3
      rw [i3] at h2
      repeat' ((conv=>whnf);first|refine Wv hji ?_|refine Rn hany ?_|(refine AA ?_;intros)|(refine AB ?_ ?_<;>intro _)|refine B2 (λ_=>?_) ?_|refine F4 hf2 AC ?_|refine DZ (λb fb=>?_)|refine ZG (l:=e3) AC ?_|refine kC (St.Ah ..) ?_|refine Al (St.Ah ..) ?_|refine vY AC (λb2 st2 hb2=>?_))
      all_goals exact AY rfl (h2 _ rfl _ _ (hb2.up (St.le_trans i2.le (St.Af (St.Af (St.le_refl _) fb.1 _) fb.1 _))))
     |false=>
      rw [hany,if_neg Do] at i3
      repeat' ((conv=>whnf);first|refine Wv hji ?_|refine Uc hany ?_|(refine AA ?_;intros)|(refine AB ?_ ?_<;>intro _)|refine B2 (λ_=>?_) ?_|refine F4 hf2 AC ?_|refine DZ (λb fb=>?_)|refine ZG (l:=e3) AC ?_|refine kC (St.Ah ..) ?_|refine Al (St.Ah ..) ?_|refine kr.app (l:=e3) (i2.grow (St.Af (St.Af (St.le_refl _) fb.1 _) fb.1 _)) AC (λo4 m4 hx4=>?_)|refine Wq (a:=(j:Int)+1) AC AC ?_)
      all_goals conv=>whnf
      all_goals exact ⟨(j+1,o4,e3++[f],m4),⟨hjt,hx4,i3,by dsimp only;rw [List.length_append,List.length_singleton];omega⟩,Nat.sub_lt_sub_left hjt (Nat.lt_succ_self j),Yl,St.le_refl _⟩
    .rw [List.drop_of_length_le AC,XR] at i3
     rw [i3] at j3
     have hji:¬(j:Int)<(fs.length:Int):=AC
     repeat' ((conv=>whnf);first|refine Ww hji ?_|(refine AA ?_;intros)|(refine AB ?_ ?_<;>intro _)|refine B2 (λ_=>?_) ?_|refine Wq (a:=(i:Int)+1) AC AC ?_)
     all_goals conv=>whnf
     all_goals exact ⟨(i+1,o3,e3,m3),⟨hlt,i2,j3,So,So⟩,Nat.sub_lt_sub_left hlt (Nat.lt_succ_self i),Yl,St.le_refl _⟩
  .rw [if_neg hk] at h1 h2 j3
   repeat' ((conv=>whnf);first|refine Wv hli ?_|(refine AA ?_;intros)|(refine AB ?_ ?_<;>intro _)|refine B2 (λ_=>?_) ?_|refine Wm hx AC ?_|refine Wq (a:=(i:Int)+1) AC AC ?_)
   all_goals conv=>whnf
   all_goals exact ⟨(i+1,o2,e2,m2),⟨hlt,j2,j3,j4,So⟩,Nat.sub_lt_sub_left hlt (Nat.lt_succ_self i),Yl,St.le_refl _⟩
 .rw [List.drop_of_length_le AC] at h1
  repeat' ((conv=>whnf);first|(refine AA ?_;intros)|(refine AB ?_ ?_<;>intro _)|refine B2 (λ_=>?_) ?_|fail)
  all_goals exact AY rfl (h1 _ rfl _ j2.le)
end
theorem KM (n:Nd):AD (GW n)<=n.size/\BC (GW n)<=B4 n:=by
 unfold GW
 split
 .rename_i b hb
  have U:=List.mem_of_getLast? hb
  have h1:=Cp U
  have h2:=EE U
  have h3:=DJ n
  have h4:=DJ b
  split
  .cases b
   rw [Nd.size] at h1
   exact ⟨by show AD _<=_;simp only [Nd.kids];omega,AC⟩
  .exact ⟨Nat.zero_le _,Nat.zero_le _⟩
 .exact ⟨Nat.zero_le _,Nat.zero_le _⟩
theorem Hx (n:Nd):AD (Hd n)<=n.size/\BC (Hd n)<=B4 n:=by
 unfold Hd
 split
 .rename_i b hb
  have U:=List.mem_of_getLast? hb
  have h1:=Cp U
  have h2:=EE U
  have h3:=DJ n
  have h4:=KM b
  split
  .exact ⟨AC,AC⟩
  .exact ⟨Nat.zero_le _,Nat.zero_le _⟩
 .exact ⟨Nat.zero_le _,Nat.zero_le _⟩
theorem EL (n:Nd) (i:Nat):AD (Ei n i)<=n.size/\BC (Ei n i)<=B4 n:=by
 unfold Ei
 split
 .rename_i b hb
  have U:=List.mem_of_getElem? hb
  have h1:=Cp U
  have h2:=EE U
  have h3:=DJ n
  have h4:=DJ b
  split
  .cases b
   rw [Nd.size] at h1
   exact ⟨by show AD _<=_;simp only [Nd.kids];omega,AC⟩
  .exact ⟨Nat.zero_le _,Nat.zero_le _⟩
 .exact ⟨Nat.zero_le _,Nat.zero_le _⟩
theorem Mp {frm:Nat}:∀{l:List Nd} {env m:List Fx},E3 frm l env=.inr m->env.length<=m.length/\m.length<=env.length+AD l
 |[],env,m,h=>by cases h;exact ⟨Nat.le_refl _,Nat.le_add_right _ _⟩
 |c::r,env,m,h=>by
  rw [E3] at h
  rw [AD]
  split at h
  .split at h
   .cases h
   .rename_i U he
    have h1:=Di he
    have h2:=Hx c
    have h3:=Mp h
    omega
  .have h3:=Mp h
   omega
theorem OB:∀{l:List Nd} {env m:List Fx},HG l env=.inr m->env.length<=m.length/\m.length<=env.length+AD l
 |[],env,m,h=>by cases h;exact ⟨Nat.le_refl _,Nat.le_add_right _ _⟩
 |c::r,env,m,h=>by
  rw [HG] at h
  rw [AD]
  split at h
  .split at h
   .cases h
   .rename_i U he
    have h1:=Di he
    have h2:=EL c 1
    have h3:=OB h
    omega
  .have h3:=OB h
   omega
theorem K0:∀(l:List Nd) (k:Nat),AD (l.drop k)<=AD l
 |[],k=>by rw [List.drop_nil];exact Nat.le_refl _
 |n::r,0=>Nat.le_refl _
 |n::r,k+1=>by
  have:=K0 r k
  rw [List.drop_succ_cons,AD];omega
theorem G0 (n:Nd):AD n.kids<n.size:=by
 cases n
 rw [Nd.size]
 show AD _<_
 simp only [Nd.kids];omega
def NO (env:List Fx) (n:Nd):Sum Ft (List Fx):=match E2 env.length (GW n) env with
 | .inl e=>.inl e
 | .inr out=>E3 env.length (GW n) out
theorem aa {m:List Fx} (h:Dz env n=.inr m):env.length<=m.length/\m.length<=env.length+2*n.size:=by
 have h1:=KM n
 have h2:=Hx n
 have h3:=EL n 1
 have h4:=K0 n.kids 2
 have h5:=G0 n
 unfold Dz at h
 split at h
 .split at h
  .cases h
  .rename_i U
   have h6:=Di U
   have h7:=Mp h
   omega
 .split at h
  .have:=Di h;omega
  .split at h
   .have:=Di h;omega
   .split at h
    .have:=OB h;omega
    .cases h;omega
section
variable {st:St} {R:Au->St->Prop}
attribute [local irreducible] Go.Aw.Am
theorem fz (h:R (.ret (.bool (FD n.kind p))) st):PC 134 [enc n,.int .i64 p] st R:=by
 refine pB Tryz.func134 ?_
 unfold FD at h
 repeat' ((conv=>whnf);first|(refine AA ?_;intros)|(refine AB ?_ ?_<;>intro _)|fail)
 all_goals conv=>whnf
 all_goals (refine Av h ?_;clear h;simp_all)
def yd (st:St) (frm:Nat) (z:Sum Ft (List Fx)) (l:List Nd) (v e:V) (m:St):Prop:=st.le m/\
 ((∃env,v=.slice 3 (A4 env) .any/\e=.Dt/\z=E3 frm l env/\frm<=env.length/\env.length+AD l<=900000000)\/∃f b,v=.slice 3 [] .any/\e=qx b/\z=.inl f/\fK st m b f)
theorem nS (hn:env.length+2*n.size<=900000000) (hs:n.size<=100000000) (ht:B4 n<=100000000) (h:uQ st R (NO env n)):PC 130 [.slice 3 (A4 env) .any,enc n] st R:=by
 have hl:=KM n
 refine AO Ab [] Tryz.func130 rfl Do rfl ?_
 refine Ag (Ai Ab ?_)
 repeat' ((conv=>whnf);first|(refine AA ?_;intros)|(refine AB ?_ ?_<;>intro _)|refine B2 (λ_=>?_) ?_|fail)
 refine Ag (Ai Ab ?_)
 repeat' ((conv=>whnf);first|(refine AA ?_;intros)|(refine AB ?_ ?_<;>intro _)|refine B2 (λ_=>?_) ?_|refine ng rfl ?_|refine Wq (a:=(n.kids.length:Int) - 1) AC AC ?_)
 refine FT (α:=V×V×St) (λy=>[(7,y.1),(8,y.2.1)]) (λ_=>[]) [0,6] [] (λy=>y.2.2) (λy=>yd st env.length (NO env n) (GW n) y.1 y.2.1 y.2.2) (Ai Ab ?_) ?_
 .skip
  repeat' ((conv=>whnf);first|(refine AA ?_;intros)|(refine AB ?_ ?_<;>intro _)|refine B2 (λ_=>?_) ?_|refine Dw (λ_=>?_)|refine Pj (Nat.le_refl _) AC AC AC ⟨λenv1 he m hle=>?_,λf he b m hb=>?_⟩)
  all_goals conv=>whnf
  .exact ⟨(_,_,m),⟨hle,.inl ⟨env1,rfl,rfl,by unfold NO;rw [he],(Di he).1,by have:=(Di he).2;omega⟩⟩,Yl,St.le_refl _⟩
  .exact ⟨(_,_,m),⟨hb.le,.inr ⟨f,b,rfl,rfl,by unfold NO;rw [he],hb⟩⟩,Yl,St.le_refl _⟩
 .rintro ⟨v,e,m⟩ hJ
  dsimp only at hJ |-
  generalize hz:NO env n=z at hJ h
  generalize GW n=l at hJ hl
  refine Ai Ab ?_
  have hlp:∀bs,v.OW bs=true/\e.OW bs=true:=λbs=>by rcases hJ.2 with ⟨_,rfl,rfl,_⟩|⟨_,_,rfl,rfl,_⟩<;>exact ⟨rfl,rfl⟩
  repeat' ((conv=>whnf);first|(refine AA ?_;intros)|(refine AB ?_ ?_<;>intro _)|refine B2 (λ_=>?_) ?_|fail)
  refine Dc (α:=Nat×V×V×St) (λy=>[(7,y.2.1),(8,y.2.2.1),(27,.int .i64 (y.1:Nat))]) [0,25,26] (λ_=>[]) [] (λy=>y.2.2.2) (λy=>y.1<=l.length/\yd st env.length z (l.drop y.1) y.2.1 y.2.2.1 y.2.2.2) (λy=>l.length - y.1) (0,v,e,m) ⟨Nat.zero_le _,hJ⟩ (by refine ⟨rfl,?_,?_,rfl⟩<;>repeat' (first|exact trivial|exact rfl|exact (hlp _).1|exact (hlp _).2|refine And.intro ?_ ?_)) (St.le_refl _) ?_
  rintro ⟨i,v,e,m⟩ ⟨hi,hle,hJ⟩
  dsimp only at hi hle hJ
  rcases hJ with ⟨env1,rfl,rfl,j1,j2,j3⟩|⟨f,b,rfl,rfl,j1,j2⟩
  .by_cases U:i<l.length
   .obtain ⟨x,hx⟩:∃x,l[(i:Int).toNat]? =some x:=⟨_,List.getElem?_eq_getElem U⟩
    have hx':l[i]? =some x:=hx
    have hxt:=EE (List.mem_of_getElem? hx)
    rw [J7 hx'] at j3
    rw [drop_at hx',E3] at j1
    have hw:=Hx x
    have hxs:=KZ (List.mem_of_getElem? hx)
    have hli:(i:Int)<(l.length:Int):=AC
    by_cases hk:x.kind=44
    .rw [if_pos hk] at j1
     repeat' ((conv=>whnf);first|refine Wv hli ?_|(refine AA ?_;intros)|(refine AB ?_ ?_<;>intro _)|refine B2 (λ_=>?_) ?_|refine Wm hx AC ?_|refine Dw (λ_=>?_)|refine fG ?_|refine Pj j2 AC AC AC ⟨λenv2 he m2 hle2=>?_,λf he b m2 hb=>?_⟩|refine Wq (a:=(i:Int)+1) AC AC ?_)
     all_goals conv=>whnf
     all_goals rw [he] at j1
     .have h3:=Di he
      exact ⟨(i+1,_,_,m2),⟨U,St.le_trans hle hle2,.inl ⟨env2,rfl,rfl,j1,AC,So⟩⟩,Nat.sub_lt_sub_left U (Nat.lt_succ_self i),Yl,St.le_refl _⟩
     .exact ⟨(i+1,_,_,m2),⟨U,St.le_trans hle hb.le,.inr ⟨f,b,rfl,rfl,j1,hb.up hle⟩⟩,Nat.sub_lt_sub_left U (Nat.lt_succ_self i),Yl,St.le_refl _⟩
    .rw [if_neg hk] at j1
     repeat' ((conv=>whnf);first|refine Wv hli ?_|(refine AA ?_;intros)|(refine AB ?_ ?_<;>intro _)|refine B2 (λ_=>?_) ?_|refine Wm hx AC ?_|refine Wq (a:=(i:Int)+1) AC AC ?_)
     all_goals conv=>whnf
     all_goals exact ⟨(i+1,_,_,m),⟨U,hle,.inl ⟨env1,rfl,rfl,j1,j2,So⟩⟩,Nat.sub_lt_sub_left U (Nat.lt_succ_self i),Yl,St.le_refl _⟩
   .rw [List.drop_of_length_le AC,E3] at j1
    have hli:¬(i:Int)<(l.length:Int):=AC
    repeat' ((conv=>whnf);first|refine Ww hli ?_|(refine AA ?_;intros)|(refine AB ?_ ?_<;>intro _)|refine B2 (λ_=>?_) ?_|fail)
    all_goals exact AY rfl (h.ok _ j1 _ hle)
  .by_cases U:i<l.length
   .obtain ⟨x,hx⟩:∃x,l[(i:Int).toNat]? =some x:=⟨_,List.getElem?_eq_getElem U⟩
    have hli:(i:Int)<(l.length:Int):=AC
    repeat' ((conv=>whnf);first|refine Wv hli ?_|(refine AA ?_;intros)|(refine AB ?_ ?_<;>intro _)|refine B2 (λ_=>?_) ?_|refine Wm hx AC ?_)
    all_goals exact AY rfl (h.no _ j1 _ _ j2)
   .have hli:¬(i:Int)<(l.length:Int):=AC
    repeat' ((conv=>whnf);first|refine Ww hli ?_|(refine AA ?_;intros)|(refine AB ?_ ?_<;>intro _)|refine B2 (λ_=>?_) ?_|fail)
    all_goals exact AY rfl (h.no _ j1 _ _ j2)
end
theorem RM (x:Nd):(Ax x).length=6:=rfl
def KR (l:List Nd) (n:Nat):List V:=(l.map Ax).flatten++(List.replicate (n - l.length) CD).flatten
theorem OM:∀l:List Nd,(l.map Ax).flatten.length=l.length*6
 |[]=>rfl
 |x::r=>by rw [List.map_cons,List.flatten_cons,List.length_append,OM r,RM,List.length_cons];omega
theorem Zm:∀n:Nat,(List.replicate n CD).flatten.length=n*6
 |0=>rfl
 |n+1=>by rw [List.replicate_succ,List.flatten_cons,List.length_append,Zm n];show 6+_=_;omega
theorem SS {n:Nat} (h:l.length<=n):(KR l n).length=n*6:=by
 unfold KR
 rw [List.length_append,OM,Zm];omega
theorem tt {n:Nat} (h:l.length<=n):NV (KR l n)=true:=by
 have:=SS h
 match KR l n,this with
 |[],_=>rfl
 |[v],e=>rw [List.length_singleton] at e;omega
 |a::b::r,_=>rfl
theorem xh {n:Nat}:(List.replicate n CD).flatten=KR [] n:=by
 unfold KR
 rw [List.map_nil,List.flatten_nil,List.nil_append,List.length_nil,Nat.sub_zero]
theorem om {n:Nat} (h:l.length=n):KR l n=(l.map Ax).flatten++[]:=by
 unfold KR
 rw [h,Nat.sub_self];rfl
theorem oo {n:Nat} (h:l.length<n):(KR l n).take (l.length*6)++Ax x++(KR l n).drop (l.length*6+6)=KR (l++[x]) n:=by
 unfold KR
 have e:=OM l
 rw [<-e,List.take_left,show (l.map Ax).flatten.length+6=((l.map Ax).flatten).length+6 from rfl,List.drop_append,List.length_append,List.length_singleton,List.map_append,List.flatten_append]
 rw [show n - l.length=(n - (l.length+1))+1 by omega,List.replicate_succ,List.flatten_cons]
 rw [List.drop_of_length_le AC,List.nil_append,show (l.map Ax).flatten.length+6 - (l.map Ax).flatten.length=6 by omega]
 simp [CD]
theorem ZS {n:Nat} {K:List V->Prop} (U:l.length=k) (h:k<n) (kk:K (KR (l++[x]) n)):Bm (KR l n) (k*6) (Ax x) K:=by
 subst U
 unfold Bm
 refine AH (tt AC) (AH (by rw [Nat.ble_eq,SS AC,RM];omega) (AH rfl (A9.2 ?_)))
 rw [RM,oo h]
 exact kk
theorem SD {st m:St} (h:st.le m) (h0:st.box b=none):st.le (m.FZ b):=⟨λy c hy=>by
 have U:y≠b:=λe=>by simp_all
 show (if y=b then none else m.box y)=some c
 rw [if_neg U]
 exact h.1 _ _ hy,h.2⟩
section
variable {st:St} {R:Au->St->Prop}
attribute [local irreducible] Go.Aw.Am
theorem ab (hn:env.length+2*n.size<=900000000) (hs:n.size<=100000000) (ht:B4 n<=100000000) (h:uQ st R (Dz env n)):PC 89 [.slice 3 (A4 env) .any,enc n] st R:=by
 have hi:=EL n 1
 have hw:=Hx n
 have hks:=G0 n
 have htk:=DJ n
 unfold Dz at h
 refine pB Tryz.func89 ?_
 by_cases h1:n.kind=53
 .rw [if_pos h1] at h
  repeat' ((conv=>whnf);first|(refine AA ?_;intros)|(refine AB ?_ ?_<;>intro _)|refine B2 (λ_=>?_) ?_|refine nS hn hs ht ⟨λe1 U m hle=>?_,λf U b m hb=>?_⟩)
  .exact AY rfl (h.ok _ U _ hle)
  .exact AY rfl (h.no _ U _ _ hb)
 rw [if_neg h1] at h
 by_cases h2:n.kind=24
 .rw [if_pos h2] at h
  have hit:∀{st:St} {R:Au->St->Prop},R (.ret (.slice 6 (BL (Ei n 1)) .any)) st->PC 132 [enc n,.int .i64 1] st R:=λh=>QJ (i:=1) h
  repeat' ((conv=>whnf);first|(refine AA ?_;intros)|(refine AB ?_ ?_<;>intro _)|refine B2 (λ_=>?_) ?_|refine Dw (λ_=>?_)|refine hit ?_|refine Pj (Nat.le_refl _) AC AC AC ⟨λe1 U m hle=>?_,λf U b m hb=>?_⟩)
  .exact AY rfl (h.ok _ U _ hle)
  .exact AY rfl (h.no _ U _ _ hb)
 rw [if_neg h2] at h
 by_cases h3:n.kind=29
 .rw [if_pos h3] at h
  repeat' ((conv=>whnf);first|(refine AA ?_;intros)|(refine AB ?_ ?_<;>intro _)|refine B2 (λ_=>?_) ?_|refine Dw (λ_=>?_)|refine fG ?_|refine Pj (Nat.le_refl _) AC AC AC ⟨λe1 U m hle=>?_,λf U b m hb=>?_⟩)
  .exact AY rfl (h.ok _ U _ hle)
  .exact AY rfl (h.no _ U _ _ hb)
 rw [if_neg h3] at h
 by_cases h4:n.kind=8
 .rw [if_pos h4] at h
  repeat' ((conv=>whnf);first|(refine AA ?_;intros)|(refine AB ?_ ?_<;>intro _)|refine B2 (λ_=>?_) ?_|fail)
  refine Dc (α:=Nat×List Fx×St) (λy=>[(0,.slice 3 (A4 y.2.1) .any),(6,.int .i64 (y.1:Nat))]) [3] (λ_=>[]) [0] (λy=>y.2.2) (λy=>St.le st y.2.2/\uQ st R (HG (n.kids.drop y.1) y.2.1)/\y.2.1.length+AD (n.kids.drop y.1)<=900000000) (λy=>n.kids.length - y.1) (2,env,st) ⟨St.le_refl _,h,by have:=K0 n.kids 2;dsimp only;omega⟩ Yl (St.le_refl _) ?_
  rintro ⟨i,e1,m⟩ ⟨j1,j2,j3⟩
  dsimp only at j1 j2 j3
  by_cases hlt:i<n.kids.length
  .obtain ⟨x,hx⟩:∃x,n.kids[(i:Int).toNat]? =some x:=⟨_,List.getElem?_eq_getElem hlt⟩
   have hx':n.kids[i]? =some x:=hx
   have hxt:=EE (List.mem_of_getElem? hx)
   have hxi:=EL x 1
   have hxs:=KZ (List.mem_of_getElem? hx)
   rw [J7 hx'] at j3
   rw [drop_at hx',HG] at j2
   have hli:(i:Int)<(n.kids.length:Int):=AC
   have hit:∀{st:St} {R:Au->St->Prop},R (.ret (.slice 6 (BL (Ei x 1)) .any)) st->PC 132 [enc x,.int .i64 1] st R:=λh=>QJ (i:=1) h
   by_cases hk:x.kind=33
   .rw [if_pos hk] at j2
    repeat' ((conv=>whnf);first|refine Wv hli ?_|refine Wm hx AC ?_|(refine AA ?_;intros)|(refine AB ?_ ?_<;>intro _)|refine B2 (λ_=>?_) ?_|refine Dw (l:=e1) (λ_=>?_)|refine hit ?_|refine Pj (env:=e1) (Nat.le_refl _) AC AC AC ⟨λe2 U m2 hle=>?_,λf U b m2 hb=>?_⟩|refine Wq (a:=(i:Int)+1) AC AC ?_)
    all_goals rw [U] at j2
    .conv=>whnf
     have h3:=Di U
     exact ⟨(i+1,e2,m2),⟨St.le_trans j1 hle,j2,So⟩,Nat.sub_lt_sub_left hlt (Nat.lt_succ_self i),Yl,St.le_refl _⟩
    .exact AY rfl (j2.no _ rfl _ _ (hb.up j1))
   .rw [if_neg hk] at j2
    repeat' ((conv=>whnf);first|refine Wv hli ?_|refine Wm hx AC ?_|(refine AA ?_;intros)|(refine AB ?_ ?_<;>intro _)|refine B2 (λ_=>?_) ?_|refine Wq (a:=(i:Int)+1) AC AC ?_)
    all_goals conv=>whnf
    all_goals exact ⟨(i+1,e1,m),⟨j1,j2,So⟩,Nat.sub_lt_sub_left hlt (Nat.lt_succ_self i),Yl,St.le_refl _⟩
  .rw [List.drop_of_length_le AC,HG] at j2
   have hli:¬(i:Int)<(n.kids.length:Int):=AC
   repeat' ((conv=>whnf);first|refine Ww hli ?_|(refine AA ?_;intros)|(refine AB ?_ ?_<;>intro _)|refine B2 (λ_=>?_) ?_|fail)
   all_goals exact AY rfl (j2.ok _ rfl _ j1)
 rw [if_neg h4] at h
 repeat' ((conv=>whnf);first|(refine AA ?_;intros)|(refine AB ?_ ?_<;>intro _)|refine B2 (λ_=>?_) ?_|fail)
 all_goals exact AY rfl (h.ok _ rfl _ (St.le_refl _))
structure RsK (st:St) (R:Au->St->Prop) (z:Sum Ft Nd):Prop where
 ok:∀t,z=.inr t->∀m,st.le m->R (.ret (.Bp [enc t,.Dt])) m
 no:∀f,z=.inl f->∀b m,fK st m b f->R (.ret (.Bp [enc Gg,qx b])) m
structure zB (st:St) (R:Au->St->Prop) (z:Sum Ft (List Nd)):Prop where
 ok:∀l,z=.inr l->∀m,st.le m->R (.ret (.Bp [.slice 6 (BL l) .any,.Dt])) m
 no:∀f,z=.inl f->∀b m,fK st m b f->R (.ret (.Bp [.slice 6 [] .any,qx b])) m
theorem mk_zero {st:St} {w:Nat} {Q:Prop} {K:Nat->Prop} (k:∀b,st.fresh b->K b):(0<=((0:Nat):Int)/\((0:Nat):Int)<=((0:Nat):Int)/\((0:Nat):Int)*(w:Int)<=140737488355328/\((0:Nat):Int)<(DG:Nat))/\((((0:Nat):Int)=0/\∀b,st.fresh b->K b)\/Q):=
 ⟨⟨Do,Do,by rw [show ((0:Nat):Int)=0 from rfl,Int.zero_mul];decide,Do⟩,.inl ⟨rfl,k⟩⟩
def xo (l:List Nd):Sum Ft (List Nd)->Sum Ft (List Nd)
 | .inl e=>.inl e
 | .inr U=>.inr (l++U)
def fL (k:Nat):Prop:=∀{env:List Fx} {p:Int} {n:Nd} {st:St} {R:Au->St->Prop},n.size<=k->n.size<=15000->env.length<=(15000 - n.size)*45000->B4 n<=100000000->RsK st R (CP env p n)->PC 60 [.slice 3 (A4 env) .any,enc n,.int .i64 p] st R
theorem gY {k:Int} {here m:List Fx} (h:Gl k p i x here=.inr m):here.length<=m.length/\m.length<=here.length+x.size:=by
 have hi:=EL x 1
 unfold Gl at h
 split at h
 .have:=Di h;omega
 .cases h;omega
section
attribute [local irreducible] Go.Aw.Bm
theorem mT (ih:fL k) {all:List Fx} (hz:n.size<=k+1) (hz2:n.size<=15000) (he:env.length<=(15000 - n.size)*45000) (ha:all.length<=env.length+2*n.size) (ht:B4 n<=100000000)
 (h:zB st R (CI all n.kind p 0 (if n.kind=8 then env else all) n.kids)):PC 90 [.slice 3 (A4 env) .any,enc n,.slice 3 (A4 all) .any,.int .i64 p] st R:=by
 have htk:=DJ n
 have hsk:=G0 n
 have hks:=Jr n
 refine AO Ab [] Tryz.func90 rfl Do rfl ?_
 refine Ag (Ai Ab ?_)
 repeat' ((conv=>whnf);first|(refine AA ?_;intros)|(refine AB ?_ ?_<;>intro _)|refine B2 (λ_=>?_) ?_|unfold Go.Aw.Bm)
 refine Ag (Ai Ab ?_)
 repeat' ((conv=>whnf);first|(refine AA ?_;intros)|(refine AB ?_ ?_<;>intro _)|refine B2 (λ_=>?_) ?_|unfold Go.Aw.Bm)
 have h0:∃here:List Fx,(if n.kind=8 then env else all)=here/\here.length<=env.length+2*n.size:=⟨_,rfl,by split<;>omega⟩
 obtain ⟨here,hh,hhl⟩:=h0
 rw [hh] at h
 refine FT (α:=Unit) (λ_=>[(10,.slice 3 (A4 here) .any)]) (λ_=>[]) [2,3,5] [0] (λ_=>st) (λ_=>True) (Ai Ab ?_) ?_
 .by_cases h8:n.kind=8
  .rw [if_pos h8] at hh
   subst hh
   repeat' ((conv=>whnf);first|(refine AA ?_;intros)|(refine AB ?_ ?_<;>intro _)|refine B2 (λ_=>?_) ?_|unfold Go.Aw.Bm)
   all_goals exact ⟨(),trivial,Yl,St.le_refl _⟩
  .rw [if_neg h8] at hh
   subst hh
   repeat' ((conv=>whnf);first|(refine AA ?_;intros)|(refine AB ?_ ?_<;>intro _)|refine B2 (λ_=>?_) ?_|unfold Go.Aw.Bm)
   all_goals exact ⟨(),trivial,Yl,St.le_refl _⟩
 rintro _ _
 clear hh
 by_cases hk0:n.kids=[]
 .rw [hk0] at h
  refine Ai Ab ?_
  have hl0:(BL n.kids).length=0:=by rw [hk0];rfl
  repeat' ((conv=>whnf);first|refine OU (n:=0) hl0 ?_|(refine AA ?_;intros)|(refine AB ?_ ?_<;>intro _)|refine B2 (λ_=>?_) ?_|refine mk_zero (λb fb=>?_)|unfold Go.Aw.Bm)
  refine QM 28 [11,26,27] [0] 0 (λk=>k=0) rfl Yl ?_
  rintro i rfl
  repeat' ((conv=>whnf);first|(refine AA ?_;intros)|(refine AB ?_ ?_<;>intro _)|refine B2 (λ_=>?_) ?_|unfold Go.Aw.Bm)
  all_goals exact AY rfl (h.ok _ rfl _ (St.Fk (St.le_refl _) fb.2 _))
 .have hne:n.kids.length≠0:=λe=>hk0 (List.length_eq_zero_iff.1 e)
  refine Ag (Ai Ab ?_)
  repeat' ((conv=>whnf);first|(refine AA ?_;intros)|(refine AB ?_ ?_<;>intro _)|refine B2 (λ_=>?_) ?_|refine Wl (λ_=>?_)|refine sV AC AC (λb fb=>?_)|unfold Go.Aw.Bm)
  refine FT (α:=St×List Nd) (λm=>[(11,.FP 6 b n.kids.length n.kids.length)]) (λ_=>[]) [] [] (λm=>m.1) (λm=>m.1.box b=some (KR m.2 n.kids.length)/\m.2.length=n.kids.length/\st.le m.1/\zB st R (.inr m.2)) ?_ ?_
  .refine Ag (Ai Ab ?_)
   repeat' ((conv=>whnf);first|(refine AA ?_;intros)|(refine AB ?_ ?_<;>intro _)|refine B2 (λ_=>?_) ?_|refine Wl (λ_=>?_)|unfold Go.Aw.Bm)
   refine MR (XP (α:=Nat×List Fx×List Nd×St) (λy=>[(10,.slice 3 (A4 y.2.1) .any),(28,.int .i64 (y.1:Nat))]) (λ_=>[]) [2,3,5,11,26,27] [0] (λy=>y.2.2.2) (λy=>y.1<=n.kids.length/\y.2.2.1.length=y.1/\y.2.2.2.box b=some (KR y.2.2.1 n.kids.length)/\st.le y.2.2.2/\zB st R (xo y.2.2.1 (CI all n.kind p y.1 y.2.1 (n.kids.drop y.1)))/\y.2.1.length+AD (n.kids.drop y.1)<=env.length+3*n.size) (λy=>n.kids.length - y.1) (0,here,[],_) ⟨Nat.zero_le _,rfl,(St.AQ _ _ _).trans (congrArg some xh),St.Af (St.le_refl _) fb.1 _,?_,?_⟩ Yl (St.le_refl _) ?_)
   .rw [List.drop_zero]
    cases hz:CI all n.kind p 0 here n.kids with
    |inl e=>rw [hz] at h;exact h
    |inr l=>rw [hz] at h;exact h
   .dsimp only;rw [List.drop_zero];omega
   .rintro ⟨i,e1,l,m⟩ ⟨j1,j2,j3,j4,U,j6⟩
    dsimp only at j1 j2 j3 j4 U j6 |-
    by_cases hlt:i<n.kids.length
    .obtain ⟨x,hx⟩:∃x,n.kids[(i:Int).toNat]? =some x:=⟨_,List.getElem?_eq_getElem hlt⟩
     have hx':n.kids[i]? =some x:=hx
     have hmem:=List.mem_of_getElem? hx
     have hxt:=EE hmem
     have hsz:=Cp hmem
     rw [J7 hx'] at j6
     rw [drop_at hx',CI] at U
     have hli:(i:Int)<(n.kids.length:Int):=AC
     have hxi:=EL x 1
     refine Ag (Ai Ab ?_)
     repeat' ((conv=>whnf);first|refine Wv hli ?_|(refine AA ?_;intros)|(refine AB ?_ ?_<;>intro _)|refine B2 (λ_=>?_) ?_|unfold Go.Aw.Bm)
     refine Ag (Ai Ab ?_)
     repeat' ((conv=>whnf);first|(refine AA ?_;intros)|(refine AB ?_ ?_<;>intro _)|refine B2 (λ_=>?_) ?_|unfold Go.Aw.Bm)
     refine Ag (MR (Ag (Ai Ab ?_)))
     repeat' ((conv=>whnf);first|refine Wm hx AC ?_|(refine AA ?_;intros)|(refine AB ?_ ?_<;>intro _)|refine B2 (λ_=>?_) ?_|unfold Go.Aw.Bm)
     refine Ag (Ai Ab ?_)
     repeat' ((conv=>whnf);first|(refine AA ?_;intros)|(refine AB ?_ ?_<;>intro _)|refine B2 (λ_=>?_) ?_|unfold Go.Aw.Bm)
     refine FT (α:=List Fx×St) (λy=>[(10,.slice 3 (A4 y.1) .any),(14,.Dt)]) (λ_=>[]) [2,3,5,11,12,13,26,27,28] [0,1] (λy=>y.2) (λy=>Gl n.kind p i x e1=.inr y.1/\m.le y.2) (Ai Ab ?_) ?_
     .unfold Gl at U |-
      have hit:∀{st:St} {R:Au->St->Prop},R (.ret (.slice 6 (BL (Ei x 1)) .any)) st->PC 132 [enc x,.int .i64 1] st R:=λh=>QJ (i:=1) h
      by_cases hc:FD n.kind p=true/\x.kind=33/\(n.kind≠8\/2<=i)
      .rw [if_pos hc] at U |-
       obtain ⟨c1,c2,c3⟩:=hc
       repeat' ((conv=>whnf);first|refine Rn c1 ?_|(refine AA ?_;intros)|(refine AB ?_ ?_<;>intro _)|refine B2 (λ_=>?_) ?_|refine fz ?_|refine hit ?_|refine Dw (l:=e1) (λ_=>?_)|refine Pj (env:=e1) (Nat.le_refl _) AC AC AC ⟨λe2 he m2 hle=>?_,λf he b m2 hb=>?_⟩|unfold Go.Aw.Bm)
       all_goals conv=>whnf
       all_goals first
        |exact ⟨(e2,m2),⟨he,hle⟩,Yl,St.le_refl _⟩
        |(rw [he] at U;exact AY rfl (U.no _ rfl _ _ (hb.up j4)))
      .rw [if_neg hc] at U |-
       repeat' ((conv=>whnf);first|(refine AA ?_;intros)|(refine AB ?_ ?_<;>intro _)|refine B2 (λ_=>?_) ?_|refine fz ?_|unfold Go.Aw.Bm)
       all_goals conv=>whnf
       all_goals first|exact ⟨(e1,m),⟨rfl,St.le_refl _⟩,Yl,St.le_refl _⟩|exact absurd ⟨FS,FS,AC⟩ hc
     .rintro ⟨e2,m2⟩ ⟨i1,i2⟩
      dsimp only at i1 i2 |-
      rw [i1] at U
      dsimp only at U
      have hhl2:=gY i1
      have hb2:=i2.1 _ _ j3
      have hle2:=St.le_trans j4 i2
      refine Ag (Ai Ab ?_)
      repeat' ((conv=>whnf);first|(refine AA ?_;intros)|(refine AB ?_ ?_<;>intro _)|refine B2 (λ_=>?_) ?_|unfold Go.Aw.Bm)
      have hw:∃wt:List Fx,(if n.kind=8/\i<2 then all else e2)=wt/\wt.length<=env.length+3*n.size:=⟨_,rfl,by split<;>omega⟩
      obtain ⟨wt,hwt,hwl⟩:=hw
      rw [hwt] at U
      refine FT (α:=Unit) (λ_=>[(15,.slice 3 (A4 wt) .any)]) (λ_=>[]) [2,3,5,10,11,12,13,26,27,28] [0,1] (λ_=>m2) (λ_=>True) (Ai Ab ?_) ?_
      .by_cases h8:n.kind=8/\i<2
       .rw [if_pos h8] at hwt
        subst hwt
        repeat' ((conv=>whnf);first|(refine AA ?_;intros)|(refine AB ?_ ?_<;>intro _)|refine B2 (λ_=>?_) ?_|unfold Go.Aw.Bm)
        all_goals first|exact ⟨(),trivial,Yl,St.le_refl _⟩|(exfalso;omega)
       .rw [if_neg h8] at hwt
        subst hwt
        repeat' ((conv=>whnf);first|(refine AA ?_;intros)|(refine AB ?_ ?_<;>intro _)|refine B2 (λ_=>?_) ?_|unfold Go.Aw.Bm)
        all_goals first|exact ⟨(),trivial,Yl,St.le_refl _⟩|(exfalso;omega)
      .rintro _ _
       clear hwt
       have hrec:∀{st:St} {R:Au->St->Prop},RsK st R (CP wt n.kind x)->PC 60 [.slice 3 (A4 wt) .any,enc x,.int .i64 n.kind] st R:=λh=>ih AC AC AC AC h
       refine Ai Ab ?_
       cases hr:CP wt n.kind x with
       |inl f=>
        rw [hr] at U
        have hrec2:∀{st:St} {R:Au->St->Prop},(∀b m,fK st m b f->R (.ret (.Bp [enc Gg,qx b])) m)->PC 60 [.slice 3 (A4 wt) .any,enc x,.int .i64 n.kind] st R:=λh=>hrec ⟨λt e=>(by rw [hr] at e;cases e),λf' e=>(by rw [hr] at e;cases e;exact h)⟩
        repeat' ((conv=>whnf);first|(refine AA ?_;intros)|(refine AB ?_ ?_<;>intro _)|refine B2 (λ_=>?_) ?_|refine hrec2 (λbf m3 hbf=>?_)|refine du (j:=i) rfl AC ?_|refine Al (hbf.le.1 _ _ hb2) ?_|refine ZS j2 hlt ?_|unfold Go.Aw.Bm)
        have hbf':∀{m3:St} {bf:Nat},m2.le m3->m3.box bf=some (zy f)->∀cs,(m3.Aa b cs).box bf=some (zy f):=λ{m3 bf} h1 h2 cs=>by
         rw [St.Ak (λe=>?_)]
         .exact h2
         .subst e
          have h3:=h1.1 _ _ hb2
          rw [h2] at h3
          have h4:=congrArg List.length (Option.some.inj h3)
          rw [SS AC] at h4
          have h5:3=n.kids.length*6:=h4
          omega
        all_goals exact AY rfl (U.no _ rfl _ _ ⟨St.Af (St.le_trans hle2 hbf.le) fb.1 _,hbf' hbf.le hbf.box _,(hbf.up hle2).new⟩)
       |inr t=>
        rw [hr] at U
        have hrec2:∀{st:St} {R:Au->St->Prop},(∀m,st.le m->R (.ret (.Bp [enc t,.Dt])) m)->PC 60 [.slice 3 (A4 wt) .any,enc x,.int .i64 n.kind] st R:=λh=>hrec ⟨λt e=>(by rw [hr] at e;cases e;exact h),λf' e=>(by rw [hr] at e;cases e)⟩
        repeat' ((conv=>whnf);first|(refine AA ?_;intros)|(refine AB ?_ ?_<;>intro _)|refine B2 (λ_=>?_) ?_|refine hrec2 (λm3 hle3=>?_)|refine du (j:=i) rfl AC ?_|refine Al (hle3.1 _ _ hb2) ?_|refine ZS j2 hlt ?_|unfold Go.Aw.Bm)
        refine Ai Ab ?_
        repeat' ((conv=>whnf);first|(refine AA ?_;intros)|(refine AB ?_ ?_<;>intro _)|refine B2 (λ_=>?_) ?_|refine Wq (a:=(i:Int)+1) AC AC ?_|unfold Go.Aw.Bm)
        all_goals conv=>whnf
        all_goals refine ⟨(i+1,e2,l++[t],m3.Aa b (KR (l++[t]) n.kids.length)),⟨hlt,by rw [List.length_append,List.length_singleton,j2],St.AQ _ _ _,St.Af (St.le_trans hle2 hle3) fb.1 _,?_,So⟩,Nat.sub_lt_sub_left hlt (Nat.lt_succ_self i),Yl,St.le_refl _⟩
        all_goals dsimp only at U |-
        all_goals cases hq:CI all n.kind p (i+1) e2 (n.kids.drop (i+1)) with
        |inl f=>rw [hq] at U;exact U
        |inr ms=>rw [hq] at U;dsimp only [xo] at U |-;rw [List.append_assoc];exact U
    .have hi2:i=n.kids.length:=AC
     rw [List.drop_of_length_le AC,CI,xo,List.append_nil] at U
     have hli:¬(i:Int)<(n.kids.length:Int):=AC
     refine Ag (Ai Ab ?_)
     repeat' ((conv=>whnf);first|refine Ww hli ?_|(refine AA ?_;intros)|(refine AB ?_ ?_<;>intro _)|refine B2 (λ_=>?_) ?_|unfold Go.Aw.Bm)
     refine Ai Ab ?_
     repeat' ((conv=>whnf);first|(refine AA ?_;intros)|(refine AB ?_ ?_<;>intro _)|refine B2 (λ_=>?_) ?_|unfold Go.Aw.Bm)
     all_goals conv=>whnf
     all_goals exact ⟨(m,l),⟨j3,So,j4,U⟩,Yl,St.le_refl _⟩
  .rintro ⟨m,ks⟩ ⟨hb,hl,hle,hr⟩
   dsimp only at hb hl hle hr |-
   rw [om hl] at hb
   refine fH 11 [] rfl (show 11<Tryz.f90.ntmps by decide) hb (λe he=>by obtain ⟨s,_,rfl⟩:=List.mem_map.1 he;rfl) (by rw [List.length_map];exact hl) ?_
   refine Ai Ab ?_
   repeat' ((conv=>whnf);first|(refine AA ?_;intros)|(refine AB ?_ ?_<;>intro _)|refine B2 (λ_=>?_) ?_|unfold Go.Aw.Bm)
   all_goals exact AY (by rw [BK];rfl) (hr.ok _ rfl _ (SD hle fb.1))
end
end
theorem R9 {op:List UInt8}:∀{l:List Fx},(∀f ∈ l,0<=f.prec)->0<=(Ns op l).prec
 |[],_=>(by decide:(0:Int)<=9)
 |f::r,h=>by
  rw [Ns]
  split
  .exact h f List.mem_cons_self
  .exact R9 λf U=>h f (List.mem_cons_of_mem _ U)
theorem bL:∀f ∈ OR,0<=f.prec:=Do
theorem R8 {op:List UInt8}:∀{l:List Fx},0<=(dY op l).prec
 |[]=>R9 bL
 |f::r=>by
  rw [dY]
  split
  .rename_i h
   have:=h.2
   unfold iH at this
   simp only [Bool.and_eq_true,decide_eq_true_eq] at this
   exact this.1.1.1
  .exact R8
theorem gT (env:List Fx) (n:Nd):0<=(VG env n).prec:=R8
mutual
theorem Mu {env:List Fx}:∀(k:Nat) {o:Fx} {l:List Nd} {q:Nd×List Nd},CM env k o l=some q->AF l=A7 q.1++AF q.2/\B4 q.1+BC q.2<=BC l
 |0,o,l,q,h=>by cases h
 |k+1,o,[],q,h=>by cases h
 |k+1,o,n::r,q,h=>by
  rw [CM] at h
  rw [AF,BC]
  split at h
  .split at h
   .cases h
   .split at h
    .rename_i p hp
     have h1:=Mu k hp
     have U:=Pm k h
     rw [F7 Do,AF,AF,AF,List.append_nil,List.append_assoc,<-h1.1] at U
     exact ⟨U.1,by
      have h3:B4 (Ar 21 [n,p.1])=B4 n+B4 p.1:=by unfold Ar;rw [B4,BC,BC,BC,List.length_nil];omega
      omega⟩
    .cases h
  .exact Pm k h
theorem Pm {env:List Fx}:∀(k:Nat) {o:Fx} {n:Nd} {l:List Nd} {q:Nd×List Nd},ED env k o n l=some q->A7 n++AF l=A7 q.1++AF q.2/\B4 q.1+BC q.2<=B4 n+BC l
 |0,o,n,l,q,h=>by cases h
 |k+1,o,n,[],q,h=>by cases h;exact ⟨rfl,Nat.le_refl _⟩
 |k+1,o,n,p::r,q,h=>by
  rw [ED] at h
  rw [AF,BC]
  split at h
  .cases h
  .split at h
   .cases h;exact ⟨by rw [AF],by show B4 n+BC (p::r)<=_;rw [BC];omega⟩
   .split at h
    .rename_i q' hq
     have h1:=Mu k hq
     have U:=Pm k h
     rw [F7 Do,AF,AF,AF,AF,List.append_nil,List.append_assoc,List.append_assoc,<-h1.1] at U
     exact ⟨U.1,by
      have h3:B4 (Ar 20 [n,p,q'.1])=B4 n+(B4 p+B4 q'.1):=by unfold Ar;rw [B4,BC,BC,BC,BC,List.length_nil];omega
      omega⟩
    .cases h
end
theorem Tw {env:List Fx}:∀(k:Nat) {o:Fx} {n:Nd} {l:List Nd} {q:Nd×List Nd},o.prec<0->ED env k o n l=some q->q.2=[]
 |0,o,n,l,q,_,h=>by cases h
 |k+1,o,n,[],q,_,h=>by cases h;rfl
 |k+1,o,n,p::r,q,U,h=>by
  have:=gT env p
  rw [ED] at h
  split at h
  .cases h
  .rw [if_neg AC] at h
   split at h
   .exact Tw k U h
   .cases h
theorem Un:∀(k:Nat) {o:Fx} {l:List Nd} {q:Nd×List Nd},o.prec<0->CM env k o l=some q->q.2=[]
 |0,o,l,q,_,h=>by cases h
 |k+1,o,[],q,_,h=>by cases h
 |k+1,o,n::r,q,U,h=>by
  rw [CM] at h
  split at h
  .split at h
   .cases h
   .split at h
    .exact Tw k U h
    .cases h
  .exact Tw k U h
theorem V2 (h:¬n.kind=1):A7 n=AF n.kids:=by
 cases n
 rw [A7]
 exact if_neg h
theorem iR {t:Nd} (h:O0 env n=.inr t):A7 t=A7 n/\B4 t<=B4 n:=by
 unfold O0 at h
 split at h
 .rename_i hk
  split at h
  .split at h
   .rename_i p hp
    cases h
    have U:=Mu _ hp
    have h2:=Un _ Do hp
    have h3:=DJ n
    rw [h2,AF,List.append_nil] at U
    rw [V2 (n:=n) (by rw [hk];decide)]
    exact ⟨U.1.symm,AC⟩
   .cases h
  .cases h
 .cases h
  exact ⟨rfl,Nat.le_refl _⟩
theorem gO {t:Nd} (h:OI env n=.inr t):A7 t=A7 n/\B4 t<=B4 n:=by
 unfold OI at h
 split at h
 .cases h
 .rename_i t' U
  cases h
  exact iR U
mutual
theorem UM:∀(n:Nd) {env:List Fx} {p:Int} {t:Nd},CP env p n=.inr t->A7 t=A7 n/\B4 t<=B4 n
 | .mk k f t l c ks,env,p,u,h=>by
   rw [CP] at h
   split at h
   .cases h
   .split at h
    .cases h
    .rename_i ks' hk
     have h1:=MB ks hk
     have U:=gO h
     rw [U.1,A7,A7,h1.1]
     have h3:=U.2
     rw [B4] at h3 |-
     exact ⟨rfl,AC⟩
theorem MB:∀(l:List Nd) {all here:List Fx} {k p:Int} {i:Nat} {m:List Nd},CI all k p i here l=.inr m->AF m=AF l/\BC m<=BC l
 |[],all,here,k,p,i,m,h=>by cases h;exact ⟨rfl,Nat.le_refl _⟩
 |n::r,all,here,k,p,i,m,h=>by
  rw [CI] at h
  split at h
  .cases h
  .split at h
   .cases h
   .rename_i t ht
    split at h
    .cases h
    .rename_i ms hm
     cases h
     have U:=UM n ht
     have h2:=MB r hm
     rw [AF,AF,BC,BC,U.1,h2.1]
     exact ⟨rfl,AC⟩
end
end Go.Proofs.Z
namespace Go.Proofs.Z
open Go Go.Aw Go.RowKit Go.Extern.Stop Go.Stop Go.Extern
theorem Vc (t:Addr) (w:World):(ReflectliteValue.unpack (.iface 95 (.pointer (some t)))).run Tryz.prog w
 =.ok (.agg #[.pointer (some ⟨7,95,none⟩),.pointer (some ⟨w.heap.size,0,none⟩),.int .u64 150]) (w.alloc (.cells #[.pointer (some t)] 95)):=EQ
theorem fX (a : Addr) (w : World) : (ReflectliteValue.methodAny (ReflectliteValue.valueError "reflectlite.Value.Type" 0) (λt _ _ _ => ReflectliteType.toType t) #[.agg #[.pointer (some ⟨7, 95, none⟩), .pointer (some a), .int .u64 150]]).run Tryz.prog w
 =.ok (.iface 191 (.agg #[.pointer (some ⟨7,95,none⟩)])) w:=EQ
theorem TM (h : Value) (w : World) : (Go.method 486 191 (.agg #[h]) "Kind").run Tryz.prog w = .ok (437, h) w := by kernel_rfl
theorem fW (w:World):((ReflectliteType.abiMethod λt=>(λa:Nat=>Value.int IntKind.u8 (a:Int))<$>Rtype.kind t) #[.pointer (some ⟨7,95,none⟩)]).run Tryz.prog w=.ok (.int .u8 22) w:=EQ
theorem fV (w:World):((ReflectliteType.abiMethod λt=>(λa:Nat=>Value.int IntKind.u8 (a:Int))<$>Rtype.kind t) #[.pointer (some ⟨7,91,none⟩)]).run Tryz.prog w=.ok (.int .u8 22) w:=EQ
theorem rlm (z:Sem Value) (f:TypeId->Addr->Nat->Nat->Sem Value) (v:Value):
 ReflectliteValue.method z f #[v]=(do match <-ReflectliteValue.parts v with|none=>z|some (t,a,U)=>f t a U (U % 32)):=rfl
theorem Rh (a:Addr) (w:World):(ReflectliteValue.parts (.agg #[.pointer (some ⟨7,95,none⟩),.pointer (some a),.int .u64 150])).run Tryz.prog w=.ok (some (95,a,150)) w:=EQ
theorem aF (a p:Addr) (W:World) (U:W.cell? a=some (.pointer (some p))):
 (ReflectliteValue.method (ReflectliteValue.valueError "reflectlite.Value.IsNil" 0) ReflectliteValue.isNil #[.agg #[.pointer (some ⟨7, 95, none⟩), .pointer (some a), .int .u64 150]]).run Tryz.prog W = .ok (.bool false) W := by
 rw [rlm]
 simp only [Sem.run_bind,Rh,Result.andThen]
 simp [ReflectliteValue.isNil,loadVar,isAgg,underlying,Tryz.underlying95,U,Result.andThen]
theorem TL (h : Value) (w : World) : (Go.method 486 191 (.agg #[h]) "Elem").run Tryz.prog w = .ok (448, .agg #[h]) w := by kernel_rfl
theorem LO (h : Value) (w : World) : (Go.method 486 191 (.agg #[h]) "Implements").run Tryz.prog w = .ok (449, .agg #[h]) w := by kernel_rfl
theorem Kp (h : Value) (w : World) : (Go.method 486 191 (.agg #[h]) "AssignableTo").run Tryz.prog w = .ok (446, .agg #[h]) w := by kernel_rfl
theorem fU (w:World):(ReflectliteType.method ReflectliteType.elem #[.agg #[.pointer (some ⟨7,95,none⟩)]]).run Tryz.prog w=.ok (.iface 191 (.agg #[.pointer (some ⟨7,91,none⟩)])) w:=EQ
theorem Qj (w : World) : (ReflectliteType.relation "Implements" ReflectliteType.implements_ #[.agg #[.pointer (some ⟨7, 91, none⟩)], .iface 191 (.agg #[.pointer (some ⟨7, 86, none⟩)])]).run Tryz.prog w = .ok (.bool true) w := by kernel_rfl
theorem XY (v:Value) (w:World):(ReflectliteType.typeOf #[.iface 91 v]).run Tryz.prog w=.ok (.iface 191 (.agg #[.pointer (some ⟨7,91,none⟩)])) w:=EQ
theorem Qi (w : World) : (ReflectliteType.relation "AssignableTo" ReflectliteType.assignableTo #[.agg #[.pointer (some ⟨7, 91, none⟩)], .iface 191 (.agg #[.pointer (some ⟨7, 91, none⟩)])]).run Tryz.prog w = .ok (.bool true) w := by kernel_rfl
theorem Vb (e:Addr) (w:World):(ReflectliteValue.unpack (.iface 91 (.pointer (some e)))).run Tryz.prog w
 =.ok (.agg #[.pointer (some ⟨7,91,none⟩),.pointer (some ⟨w.heap.size,0,none⟩),.int .u64 150]) (w.alloc (.cells #[.pointer (some e)] 91)):=EQ
theorem XW (w:World):(Rtype.elem? 95).run Tryz.prog w=.ok (some 91) w:=EQ
theorem qN (p:Addr) (w:World):(ReflectliteValue.mk 91 p ReflectliteValue.flagAddr).run Tryz.prog w=.ok (.agg #[.pointer (some ⟨7,91,none⟩),.pointer (some p),.int .u64 406]) w:=EQ
theorem aE (a p:Addr) (W:World) (U:W.cell? a=some (.pointer (some p))):
 (ReflectliteValue.method (ReflectliteValue.valueError "reflectlite.Value.Elem" 0) ReflectliteValue.elem #[.agg #[.pointer (some ⟨7, 95, none⟩), .pointer (some a), .int .u64 150]]).run Tryz.prog W
   =.ok (.agg #[.pointer (some ⟨7,91,none⟩),.pointer (some p),.int .u64 406]) W:=by
 rw [rlm]
 simp only [Sem.run_bind,Rh,Result.andThen]
 simp [ReflectliteValue.elem,loadVar,isAgg,underlying,Tryz.underlying95,U,Result.andThen,XW,qN]
theorem rls (v x:Value):ReflectliteValue.set #[v,x]=(do
 let (some (dst,a,fl),some (src,b,_)):=(<-ReflectliteValue.parts v,<-ReflectliteValue.parts x)
  | unsupported (.noEntry "extern/(internal/reflectlite.Value).Set.zeroValue")
 if fl / ReflectliteValue.flagAddr % 2 == 0 then unsupported (.noEntry "extern/(internal/reflectlite.Value).Set.unaddressable")
 let val <-loadVar src b
 if <-Rtype.directlyAssignable dst src then storeVar dst a val
 else if <-Rtype.implements dst src then
  if (<-Rtype.kind src)==20 then
   match val with
   | .nilIface => unsupported (.noEntry "extern/reflectlite: a nil value of one interface type handed on as a value of another")
   |_=>storeVar dst a val
  else storeVar dst a (.iface src val)
 else panicString ("reflectlite.Set: value of type " ++ (<- Rtype.spelt src) ++ " is not assignable to type " ++ (<- Rtype.spelt dst))
 pure (.tuple #[])):=rfl
theorem XX (a:Addr) (w:World):(ReflectliteValue.parts (.agg #[.pointer (some ⟨7,91,none⟩),.pointer (some a),.int .u64 406])).run Tryz.prog w=.ok (some (91,a,406)) w:=EQ
theorem aG (a:Addr) (w:World):(ReflectliteValue.parts (.agg #[.pointer (some ⟨7,91,none⟩),.pointer (some a),.int .u64 150])).run Tryz.prog w=.ok (some (91,a,150)) w:=EQ
theorem XV (w:World):(Rtype.directlyAssignable 91 91).run Tryz.prog w=.ok true w:=EQ
theorem kK (U b e:Addr) (IL:Value) (W:World) (hb:W.cell? b=some (.pointer (some e))) (ht:W.cell? U=some IL) (hf:W.frozen? U=false):
 (ReflectliteValue.set #[.agg #[.pointer (some ⟨7,91,none⟩),.pointer (some U),.int .u64 406],.agg #[.pointer (some ⟨7,91,none⟩),.pointer (some b),.int .u64 150]]).run Tryz.prog W
   =.ok (.tuple #[]) (W.setCell U (.pointer (some e))):=by
 rw [rls]
 simp only [Sem.run_bind,XX,aG,Result.andThen]
 simp [ReflectliteValue.flagAddr,loadVar,isAgg,underlying,Tryz.underlying91,hb,Result.andThen,XV,storeVar,Value.cells,storeCells,Addr.add]
 rw [run_store Tryz.prog W U _ _ H1]
 simp [ht,hf]
theorem vX (e t:Addr) (IL:Value) (w:World) (hg:w.cell? ⟨0,0,none⟩=some (.iface 191 (.agg #[.pointer (some ⟨7,86,none⟩)]))) (ht0:w.cell? t=some IL) (hf0:w.frozen? t=false):
 Calls Tryz.prog 61 #[.iface 91 (.pointer (some e)),.iface 95 (.pointer (some t))] w λev w'=>ev=.returned (.bool true)/\w'=((((w.alloc (.cells #[.pointer (some t)] 95)).alloc (.cells #[.pointer (some ⟨7,95,none⟩),.pointer (some ⟨w.heap.size,0,none⟩),.int .u64 150] 133)).alloc (.cells #[.pointer (some ⟨7,95,none⟩),.pointer (some ⟨w.heap.size,0,none⟩),.int .u64 150] 133)).alloc (.cells #[.pointer (some e)] 91)).setCell t (.pointer (some e)):=by
 have h6:=@run_callFunc_extern Tryz.prog 93 _ (λargs=>ReflectliteValue.unpack (args.getD 0 (.tuple #[]))) Tryz.func93 EQ EQ EQ EQ
 have h7 := @run_callFunc_extern Tryz.prog 94 _ (ReflectliteValue.methodAny (ReflectliteValue.valueError "reflectlite.Value.Type" 0) (λt _ _ _ => ReflectliteType.toType t)) Tryz.func94 EQ EQ EQ EQ
 have h8 := @run_callFunc_extern Tryz.prog 95 _ (ReflectliteValue.method (ReflectliteValue.valueError "reflectlite.Value.IsNil" 0) ReflectliteValue.isNil) Tryz.func95 EQ EQ EQ EQ
 have h27:=@run_callFunc_extern Tryz.prog 437 _ (ReflectliteType.abiMethod λt=>do pure (.int .u8 (<-Rtype.kind t))) Tryz.func437 EQ EQ EQ EQ
 have h37:=@run_callFunc_extern Tryz.prog 448 _ (ReflectliteType.method ReflectliteType.elem) Tryz.func448 EQ EQ EQ EQ
 have h38 := @run_callFunc_extern Tryz.prog 449 _ (ReflectliteType.relation "Implements" ReflectliteType.implements_) Tryz.func449 EQ EQ EQ EQ
 have h10:=@run_callFunc_extern Tryz.prog 141 _ ReflectliteType.typeOf Tryz.func141 EQ EQ EQ EQ
 have h35 := @run_callFunc_extern Tryz.prog 446 _ (ReflectliteType.relation "AssignableTo" ReflectliteType.assignableTo) Tryz.func446 EQ EQ EQ EQ
 have h11 := @run_callFunc_extern Tryz.prog 142 _ (ReflectliteValue.method (ReflectliteValue.valueError "reflectlite.Value.Elem" 0) ReflectliteValue.elem) Tryz.func142 EQ EQ EQ EQ
 have h12:=@run_callFunc_extern Tryz.prog 143 _ ReflectliteValue.set Tryz.func143 EQ EQ EQ EQ
 have tO:=XY
 have mA:=Kp
 have a25:=Qi
 have v25:=Vb
 have f6:=Vc
 have f7:=fX
 have mK:=TM
 have mE:=TL
 have mI:=LO
 have k27:=fW
 have k25:=fV
 have e27:=fU
 have i25:=Qj
 have n8:=aF ⟨w.heap.size,0,none⟩ t ((w.alloc (.cells #[.pointer (some t)] 95)).alloc (.cells #[.pointer (some ⟨7,95,none⟩),.pointer (some ⟨w.heap.size,0,none⟩),.int .u64 150] 133)) GT
 have hlt:0<w.heap.size:=by
  rcases Nat.lt_or_ge 0 w.heap.size with h|h0
  .exact h
  .simp [World.cell?,Array.getElem?_eq_none h0] at hg
 have hg2:((w.alloc (.cells #[.pointer (some t)] 95)).alloc (.cells #[.pointer (some ⟨7,95,none⟩),.pointer (some ⟨w.heap.size,0,none⟩),.int .u64 150] 133)).cell? ⟨0,0,none⟩=some (.iface 191 (.agg #[.pointer (some ⟨7,86,none⟩)])):=by
  rw [World.cell?_alloc_lt _ _ ⟨0,0,none⟩ GT,World.cell?_alloc_lt _ _ ⟨0,0,none⟩ hlt];exact hg
 have htl:t.block<w.heap.size:=by
  rcases Nat.lt_or_ge t.block w.heap.size with h|h
  .exact h
  .simp [World.cell?,Array.getElem?_eq_none h] at ht0
 have el:=aE ⟨w.heap.size,0,none⟩ t (((w.alloc (.cells #[.pointer (some t)] 95)).alloc (.cells #[.pointer (some ⟨7,95,none⟩),.pointer (some ⟨w.heap.size,0,none⟩),.int .u64 150] 133)).alloc (.cells #[.pointer (some ⟨7,95,none⟩),.pointer (some ⟨w.heap.size,0,none⟩),.int .u64 150] 133)) (by rw [World.cell?_alloc_lt _ _ ⟨w.heap.size,0,none⟩ UV];simp)
 have st:=kK t ⟨w.heap.size+1+1+1,0,none⟩ e IL ((((w.alloc (.cells #[.pointer (some t)] 95)).alloc (.cells #[.pointer (some ⟨7,95,none⟩),.pointer (some ⟨w.heap.size,0,none⟩),.int .u64 150] 133)).alloc (.cells #[.pointer (some ⟨7,95,none⟩),.pointer (some ⟨w.heap.size,0,none⟩),.int .u64 150] 133)).alloc (.cells #[.pointer (some e)] 91))
  (by rw [World.cell?_alloc_at _ _ _ _ GT];rfl)
  (by rw [World.cell?_alloc_lt _ _ t UV,World.cell?_alloc_lt _ _ t UV,World.cell?_alloc_lt _ _ t UV,World.cell?_alloc_lt _ _ t htl];exact ht0)
  (by rw [World.frozen?_alloc_old _ _ t UV,World.frozen?_alloc_old _ _ t UV,World.frozen?_alloc_old _ _ t UV,World.frozen?_alloc_old _ _ t (Nat.ne_of_lt htl)];exact hf0)
 go_enter Tryz.func61,Tryz.ntmps61
 go_wp2
 refine wp_loop_rounds 1 ?_
 rw [rounds_succ]
 go_wp2
 go_ret
 exact ⟨rfl,rfl⟩
end Go.Proofs.Z
namespace Go.Proofs.Z
open Go Go.Aw
section
variable {st:St} {R:Au->St->Prop}
theorem y9 (ih:fL k):fL (k+1):=by
 intro env p n st R hz hz2 he ht h
 refine pB Tryz.func60 ?_
 cases n with
 |mk nk nf nt nl nc ks=>
  generalize hn:Nd.mk nk nf nt nl nc ks=n at hz hz2 he ht h |-
  have hks:n.kids=ks:=by rw [<-hn];rfl
  have hkk:n.kind=nk:=by rw [<-hn];rfl
  have hzk:=G0 n
  cases hw:Dz env n with
  |inl f=>
   have hr:CP env p n=.inl f:=by rw [<-hn] at hw |-;rw [CP,hw]
   have hwf:∀{st:St} {R:Au->St->Prop},(∀b m,fK st m b f->R (.ret (.Bp [.slice 3 [] .any,qx b])) m)->PC 89 [.slice 3 (A4 env) .any,enc n] st R:=λh=>ab AC AC ht (.inl hw h)
   repeat' ((conv=>whnf);first|(refine AA ?_;intros)|(refine AB ?_ ?_<;>intro _)|refine hwf (λb m hb=>?_))
   all_goals exact AY rfl (h.no _ hr _ _ hb)
  |inr all=>
   have hwl:=aa hw
   have hwf:∀{st:St} {R:Au->St->Prop},(∀m,st.le m->R (.ret (.Bp [.slice 3 (A4 all) .any,.Dt])) m)->PC 89 [.slice 3 (A4 env) .any,enc n] st R:=λh=>ab AC AC ht (.inr hw h)
   cases U:CI all nk p 0 (if nk=8 then env else all) ks with
   |inl f=>
    have hr:CP env p n=.inl f:=by rw [<-hn] at hw |-;rw [CP,hw];dsimp only;rw [U]
    have hkf:∀{st:St} {R:Au->St->Prop},(∀b m,fK st m b f->R (.ret (.Bp [.slice 6 [] .any,qx b])) m)->PC 90 [.slice 3 (A4 env) .any,enc n,.slice 3 (A4 all) .any,.int .i64 p] st R:=λh=>mT ih hz hz2 he hwl.2 ht (by rw [hkk,hks,U];exact ⟨λl e=>(by cases e),λf e=>(by cases e;exact h)⟩)
    repeat' ((conv=>whnf);first|(refine AA ?_;intros)|(refine AB ?_ ?_<;>intro _)|refine hwf (λm hle=>?_)|refine hkf (λb m2 hb=>?_))
    all_goals exact AY rfl (h.no _ hr _ _ (hb.up hle))
   |inr ms=>
    have hr:CP env p n=OI all (.mk nk nf nt nl nc ms):=by rw [<-hn] at hw |-;rw [CP,hw];dsimp only;rw [U]
    have hkp:=MB ks U
    have hkf:∀{st:St} {R:Au->St->Prop},(∀m,st.le m->R (.ret (.Bp [.slice 6 (BL ms) .any,.Dt])) m)->PC 90 [.slice 3 (A4 env) .any,enc n,.slice 3 (A4 all) .any,.int .i64 p] st R:=λh=>mT ih hz hz2 he hwl.2 ht (by rw [hkk,hks,U];exact ⟨λl e=>(by cases e;exact h),λf e=>(by cases e)⟩)
    have htn:B4 (.mk nk nf nt nl nc ms)<=100000000:=by rw [<-hn] at ht;rw [B4] at ht |-;omega
    have hln:(A7 (.mk nk nf nt nl nc ms)).length<=100000000:=by
     have h1:=Hr n
     have h2:A7 (.mk nk nf nt nl nc ms)=A7 n:=by rw [<-hn,A7,A7,hkp.1]
     rw [h2];omega
    unfold OI at hr
    have hf:n.form=nf:=by rw [<-hn];rfl
    have hx:n.text=nt:=by rw [<-hn];rfl
    have hl:n.line=nl:=by rw [<-hn];rfl
    have hc:n.Cg=nc:=by rw [<-hn];rfl
    rw [<-hkk,<-hf,<-hx,<-hl,<-hc] at hr htn hln
    cases ho:O0 all (.mk n.kind n.form n.text n.line n.Cg ms) with
    |inl e=>
     rw [ho] at hr
     have hof:∀{st:St} {R:Au->St->Prop},(∀m,st.le m->R (.ret (.Bp [enc Gg,.int .i64 e])) m)->PC 91 [.slice 3 (A4 all) .any,enc (.mk n.kind n.form n.text n.line n.Cg ms)] st R:=λh=>vk AC htn (λt h=>by rw [ho] at h;cases h) (λe h'=>by rw [ho] at h';cases h';exact h)
     have he0:e≠0:=by
      unfold O0 at ho
      (repeat' split at ho)<;>first|(cases ho;decide)|cases ho
     repeat' ((conv=>whnf);first|(refine AA ?_;intros)|(refine AB ?_ ?_<;>intro _)|refine hwf (λm hle=>?_)|refine hkf (λm2 hle2=>?_)|refine hof (λm3 hle3=>?_)|refine vY (n:=.mk n.kind n.form n.text n.line n.Cg ms) hln (λb m4 hb=>?_))
     all_goals exact AY rfl (h.no _ hr _ _ (hb.up (St.le_trans hle (St.le_trans hle2 hle3))))
    |inr t=>
     rw [ho] at hr
     have hof:∀{st:St} {R:Au->St->Prop},(∀m,st.le m->R (.ret (.Bp [enc t,.int .i64 0])) m)->PC 91 [.slice 3 (A4 all) .any,enc (.mk n.kind n.form n.text n.line n.Cg ms)] st R:=λh=>vk AC htn (λt h'=>by rw [ho] at h';cases h';exact h) (λe h'=>by rw [ho] at h';cases h')
     repeat' ((conv=>whnf);first|(refine AA ?_;intros)|(refine AB ?_ ?_<;>intro _)|refine hwf (λm hle=>?_)|refine hkf (λm2 hle2=>?_)|refine hof (λm3 hle3=>?_))
     all_goals exact AY rfl (h.ok _ hr _ (St.le_trans hle (St.le_trans hle2 hle3)))
theorem xB:fL 0:=by
 unfold fL
 intro env p n st R U
 cases n
 rw [Nd.size] at U;omega
theorem xA:∀k,fL k
 |0=>xB
 |k+1=>y9 (xA k)
end
theorem ZC {w:World} {x y:Value} (h:w.heap[b]? =some (.cells #[x] ty (0,0))):w.setCell ⟨b,0,none⟩ y=w.setRow b #[y]:=by
 unfold World.setCell World.setRow
 congr 1
 apply Array.ext_getElem?
 intro i
 simp only [Array.getElem?_modify]
 split
 .rename_i e
  subst e
  rw [h]
  rfl
 .rfl
section
variable {st:St} {R:Au->St->Prop}
theorem kI {e:Nat} {IL:V} (ht:st.box t=some [IL]) (h:R (.ret (.bool true)) (st.Aa t [.ptr e 0])):PC 61 [.iface 91 (.ptr e 0),.iface 95 (.ptr t 0)] st R:=by
 refine ⟨λI w cargs hs ha=>?_,⟨_,Tryz.func61,Do,Do⟩⟩
 simp only [Ao,AM] at ha
 obtain ⟨_,_,rfl,⟨c1,rfl,rfl⟩,c2,_,rfl,⟨c3,rfl,rfl⟩,rfl⟩:=ha
 obtain ⟨vs,ty,h1,h2⟩:=hs.box t _ ht
 simp only [Ao] at h2
 obtain ⟨c,_,rfl,h3,rfl⟩:=h2
 have hg:=hs.cell _ _ _ hs.T0.handle
 have hc:w.cell? ⟨t,0,none⟩=some c:=by simp [World.cell?,h1]
 have hf:w.frozen? ⟨t,0,none⟩=false:=by simp [World.frozen?,h1]
 refine (vX ⟨e,0,none⟩ ⟨t,0,none⟩ c w hg hc hf).mono ?_
 rintro ev w' ⟨rfl,rfl⟩
 have hr:Rel [] I st w I (λ_=>none) {tmps:=[],boxes:=[],Bs:=0,sz:=0,gl:=[]} st {tmps:=#[],defers:=[]} w:=
  NU hs rfl (λt v e=>by cases e) rfl rfl
 have hlt:=Gt h1
 have hr2:=(((hr.HO (Et.alloc w (.cells #[.pointer (some ⟨t,0,none⟩)] 95))).HO (Et.alloc _ (.cells #[.pointer (some ⟨7,95,none⟩),.pointer (some ⟨w.heap.size,0,none⟩),.int .u64 150] 133))).HO (Et.alloc _ (.cells #[.pointer (some ⟨7,95,none⟩),.pointer (some ⟨w.heap.size,0,none⟩),.int .u64 150] 133))).HO (Et.alloc _ (.cells #[.pointer (some ⟨e,0,none⟩)] 91))
 generalize hW:(((w.alloc _).alloc _).alloc _).alloc _=W at hr2 |-
 have U:W.heap[t]? =some (.cells #[c] ty (0,0)):=by
  rw [<-hW,(Et.alloc _ _).IL t UV,(Et.alloc _ _).IL t UV,(Et.alloc _ _).IL t UV,(Et.alloc _ _).IL t hlt]
  exact h1
 have hr3:=hr2.K3 (vs:=[c]) (us:=[.pointer (some ⟨e,0,none⟩)]) (cs':=[.ptr e 0]) ht U (by simp only [Ao,AM];exact ⟨_,_,rfl,rfl,rfl⟩)
 rw [ZC U]
 exact ⟨I,_,.ret (.bool true),hr3.fr,hr3.s,rfl,h⟩
theorem kJ {v:V} (h:R (.ret (.bool false)) st):PC 61 [.Dt,v] st R:=by
 refine pB Tryz.func61 ?_
 repeat' ((conv=>whnf);first|(refine AA ?_;intros)|(refine AB ?_ ?_<;>intro _)|fail)
 all_goals exact fin h rfl
end
end Go.Proofs.Z
namespace Go.Aw
open Go
theorem vJ {c:Code} {env:Env} {st:St} (t b U:Nat) (ht:env.get t=.ptr b 0) (hb:st.box b=some [.ptr U 0]) (hf:st.box U=some cs) (hne:U≠b)
 (h:AW P c Q {env with tmps:=(t,.Gi [.Gi cs 0] 0)::env.tmps} ((st.FZ U).FZ b)):AW P c Q env st:=by
 intro D I0 st0 w0 I β a w hr
 obtain ⟨vs,hv,hl,hr1⟩:=hr.freeze (b:=U) hf
 have hb1:(st.FZ U).box b=some [.ptr U 0]:=by
  show (if b=U then none else st.box b)=_
  rw [if_neg (λe=>hne e.symm)];exact hb
 obtain ⟨us,hu,hl2,hr2⟩:=hr1.freeze (b:=b) hb1
 refine h D I0 st0 w0 _ β a w ⟨hr2.fr,hr2.s,{hr2.f with tmps:=?_}⟩
 intro t' v e
 rw [Bk] at e
 cases hbq:Nat.beq t t' with
 |false=>rw [hbq] at e;exact hr2.f.tmps t' v e
 |true=>
  rw [hbq] at e
  have:=Nat.eq_of_beq_eq_true hbq
  subst this
  simp only [cond_true,Option.some.injEq] at e
  subst e
  have h1:=(hr.f.get t).rep (by rw [ht];rfl)
  rw [ht] at h1
  refine A2.of ?_
  simp only [AM] at h1
  simp only [Ao,AM] at hu
  obtain ⟨_,_,rfl,rfl,rfl⟩:=hu
  simp only [AM]
  refine ⟨b,0,h1,⟨⟨_,(Mem.Mi (n:=1) (h:=0) (j:=0) rfl),?_⟩,trivial⟩⟩
  simp only [AM]
  exact ⟨U,0,rfl,S3 hv (Mem.le_trans hl hl2) λj c e=>hl2.1 _ _ _ (by simpa using Mem.Mi (I:=I) (b:=U) (h:=0) (n:=vs.length) e)⟩
end Go.Aw
namespace Go.Proofs.Z
open Go Go.Aw
section
variable {st:St} {R:Au->St->Prop}
theorem tM (hz:n.size<=15000) (ht:B4 n<=100000000) (h:∀st',st.le st'->R (.ret (.Bp [enc (D1 n).1,.int .i64 (D1 n).2.2.1,.int .i64 (D1 n).2.2.2,.int .i64 (D1 n).2.1])) st'):PC 33 [enc n] st R:=by
 refine AO Ab [7,14] Tryz.func33 rfl Do rfl ?_
 unfold D1 at h
 cases hr:CP [] 0 n with
 |inr t=>
  rw [hr] at h
  have hres:∀{st:St} {R:Au->St->Prop},(∀m,st.le m->R (.ret (.Bp [enc t,.Dt])) m)->PC 60 [.slice 3 [] .full,enc n,.int .i64 0] st R:=λh=>FL (args':=[.slice 3 (A4 []) .any,enc n,.int .i64 0]) rfl (xA n.size (Nat.le_refl _) hz (Nat.zero_le _) ht ⟨λt e=>(by rw [hr] at e;cases e;exact h),λf e=>(by rw [hr] at e;cases e)⟩)
  refine Ai Ab ?_
  repeat' ((conv=>whnf);first|exact BH|(refine AA ?_;intros)|(refine BI ?_ ?_ ?_;rotate_left)|(refine AB ?_ ?_<;>intro _)|refine B2 (λ_=>?_) ?_|refine hres (λm hle=>?_)|refine DZ (λb fb=>?_)|refine Al (St.Ah ..) ?_|refine kJ ?_|with_reducible refine WF ?_)
  rename_i b2 f2
  all_goals exact AY rfl (h _ (St.le_trans hle (St.Af (St.Af (St.Af (St.le_refl _) f2.1 _) (AX fb).2.1 _) (AX fb).2.1 _)))
 |inl f=>
  rw [hr] at h
  have hres:∀{st:St} {R:Au->St->Prop},(∀b m,fK st m b f->R (.ret (.Bp [enc Gg,qx b])) m)->PC 60 [.slice 3 [] .full,enc n,.int .i64 0] st R:=λh=>FL (args':=[.slice 3 (A4 []) .any,enc n,.int .i64 0]) rfl (xA n.size (Nat.le_refl _) hz (Nat.zero_le _) ht ⟨λt e=>(by rw [hr] at e;cases e),λf e=>(by rw [hr] at e;cases e;exact h)⟩)
  refine Ag (Ai Ab ?_)
  repeat' ((conv=>whnf);first|exact BH|(refine AA ?_;intros)|(refine BI ?_ ?_ ?_;rotate_left)|(refine AB ?_ ?_<;>intro _)|refine B2 (λ_=>?_) ?_|with_reducible refine WF ?_)
  refine Ag (Ai Ab ?_)
  repeat' ((conv=>whnf);first|exact BH|(refine AA ?_;intros)|(refine BI ?_ ?_ ?_;rotate_left)|(refine AB ?_ ?_<;>intro _)|refine B2 (λ_=>?_) ?_|refine hres (λbf m U=>?_)|with_reducible refine WF ?_)
  refine Ag (Ai Ab ?_)
  repeat' ((conv=>whnf);first|exact BH|(refine AA ?_;intros)|(refine BI ?_ ?_ ?_;rotate_left)|(refine AB ?_ ?_<;>intro _)|refine B2 (λ_=>?_) ?_|refine DZ (λb fb=>?_)|refine Al (St.Ah ..) ?_|with_reducible refine WF ?_)
  rename_i b2 f2
  obtain ⟨hle,U,hnew⟩:=U
  obtain ⟨n1,f3⟩:=AX fb
  have n2:b2≠bf:=λe=>by subst e;rw [f2.1] at U;cases U
  have n3:b≠bf:=λe=>by subst e;rw [f3.1] at U;cases U
  refine Ag (Ag (Ai Ab ?_))
  repeat' ((conv=>whnf);first|exact BH|(refine AA ?_;intros)|(refine BI ?_ ?_ ?_;rotate_left)|(refine AB ?_ ?_<;>intro _)|refine B2 (λ_=>?_) ?_|refine kI (St.Ah ..) ?_|with_reducible refine WF ?_)
  refine U5 true rfl ?_
  rw [if_pos rfl]
  have hm:∀C0 C1 C2 C3,((((m.Aa b2 C0).Aa b C1).Aa b C2).Aa b C3).box bf=some (zy f):=λ_ _ _ _=>by rw [St.Ak n3,St.Ak n3,St.Ak n3,St.Ak n2];exact U
  have hle':∀C0 C1 C2 C3,st.le ((((m.Aa b2 C0).Aa b C1).Aa b C2).Aa b C3):=λ_ _ _ _=>St.le_trans hle (St.Af (St.Af (St.Af (St.Af (St.le_refl _) f2.1 _) f3.1 _) f3.1 _) f3.1 _)
  refine vJ 7 b bf rfl (St.Ah ..) (hm _ _ _ _) n3.symm ?_
  refine Ai Ab ?_
  repeat' ((conv=>whnf);first|exact BH|(refine AA ?_;intros)|(refine BI ?_ ?_ ?_;rotate_left)|(refine AB ?_ ?_<;>intro _)|refine B2 (λ_=>?_) ?_|refine Ad [(0,true),(1,true),(2,true),(3,true),(4,true),(5,true),(6,true),(7,true),(8,true),(9,true),(10,true),(11,true),(12,true),(13,false),(14,true),(15,true),(16,true)] [1] GE ?_|with_reducible refine WF ?_)
  all_goals exact AY rfl (h _ (SD (SD (hle' _ _ _ _) hnew) (NK hle f3).1))
end
theorem nu (a b:List (List UInt8)):Lib.lens (a++b)=Lib.lens a+Lib.lens b:=by simp [Lib.lens]
theorem nE {p:Nat} {x y:Lx} (hv:Vd s) (hp:BQ s p) (h:x.Ay.length<=p/\Lib.lens (x.Ay.map Tk.text)<=p) (e:GY s p x=.inr y):y.Ay.length<=s.length/\Lib.lens (y.Ay.map Tk.text)<=s.length:=by
 have hpl:=hp.le
 fun_induction GY s p x with
 |case1 p x U h1=>cases e
 |case2 p x U h1 h2 h3 ih=>
  obtain ⟨q,e1,e2,e3,e4⟩:=Y8 hv hp AC h2
  have eq:(CJ s p).1.toNat=q:=AC
  rw [eq] at ih e
  have hb:=JD e3
  exact ih (e4.q6 hv) ⟨by show x.Ay.length<=_;omega,by show Lib.lens (x.Ay.map Tk.text)<=_;omega⟩ e hb.2
 |case3 p x U h1 h2 h3=>injection e with e;subst e;omega
 |case4 p x U h1 h2 h3=>cases e
 |case5 p x U h1 h2 h3 h4 ih=>
  obtain ⟨e0,q,e1,e2,e3,e4⟩:=YQ hv hp AC
  have eq:(Cr s p).2.1.toNat=q:=AC
  rw [eq] at ih e
  have hb:=JD e3
  have hpc:(A0 s p q).length=q - p:=Jj AC e3
  have l1:(Kt s p q (Cr s p).1 x).Ay.length=x.Ay.length+1:=by simp [Kt]
  have l2:Lib.lens ((Kt s p q (Cr s p).1 x).Ay.map Tk.text)=Lib.lens (x.Ay.map Tk.text)+(q - p):=by
   show Lib.lens ((x.Ay++[_]).map Tk.text)=_
   rw [List.map_append,nu]
   simp [Lib.lens,hpc]
  exact ih (e4.q6 hv) ⟨AC,AC⟩ e hb.2
 |case6 p x U h1 h2 h3 h4=>injection e with e;subst e;omega
 |case7 p x U=>injection e with e;subst e;omega
theorem ny {y:Lx} (e:GX s=.inr y):y.Ay.length<=s.length/\Lib.lens (y.Ay.map Tk.text)<=s.length:=by
 have ok:=sM e
 unfold GX at e
 split at e
 .cases e
 .split at e
  .cases e
  .split at e
   .cases e
   .exact nE ok.2.1 (BQ.q6 ok.2.1 (.zero s)) ⟨Nat.zero_le _,Nat.zero_le _⟩ e
theorem iu {p:Nat} {x:Lx} {i e:Int} (h:GY s p x=.inl (i,e)):e≠0:=by
 fun_induction GY s p x with
 |case1 p x U h1=>injection h with h;injection h with h h';omega
 |case2 p x U h1 h2 h3 ih=>exact ih h
 |case3 p x U h1 h2 h3=>cases h
 |case4 p x U h1 h2 h3=>injection h with h;injection h with h h';omega
 |case5 p x U h1 h2 h3 h4 ih=>exact ih h
 |case6 p x U h1 h2 h3 h4=>cases h
 |case7 p x U=>cases h
theorem nw {i e:Int} (h:GX s=.inl (i,e)):e≠0:=by
 unfold GX at h
 split at h
 .injection h with h;injection h with h h';omega
 .split at h
  .rename_i U
   injection h with h
   rw [h] at U;exact U
  .split at h
   .injection h with h;injection h with h h';omega
   .exact iu h
section
variable {st:St} {R:Au->St->Prop}
theorem yM {i e:Int} (hs:GX s=.inl (i,e)) (h:∀st',st.le st'->R (.ret (.Bp [.slice 4 [] .full,.slice 5 [] .full,.int .i64 i,.int .i64 e])) st'):PC 18 [.str s] st R:=by
 refine vb (λi' e' U=>?_) (λi' e' st' hle U=>?_) (λx w1 w2 st' U=>?_)
 .rw [hs] at U;injection U with U;injection U with e1 e2;subst e1;subst e2;exact h st (St.le_refl _)
 .rw [hs] at U;injection U with U;injection U with e1 e2;subst e1;subst e2;exact h st' hle
 .rw [hs] at U;cases U
theorem yN {x:Lx} (hs:GX s=.inr x) (h:∀w1 w2 st',st.le st'->R (.ret (.Bp [.slice 4 (AV x.Ay) w1,.slice 5 (GR x.notes) w2,.int .i64 0,.int .i64 0])) st'):PC 18 [.str s] st R:=by
 refine vb (λi' e' U=>?_) (λi' e' st' hle U=>?_) (λx w1 w2 st' U hle=>?_)
 .rw [hs] at U;cases U
 .rw [hs] at U;cases U
 .rw [hs] at U;injection U with U;subst U;exact h w1 w2 st' hle
end
end Go.Proofs.Z
namespace Go.Aw
theorem len_nil {α:Type} {K:Nat->Prop} (k:0<DG->K 0):∀m,m=([]:List α).length->m<DG->K m:=λm U h=>by subst U;exact k h
end Go.Aw
namespace Go.Proofs.Z
open Go Go.Aw
section
variable {st:St} {R:Au->St->Prop}
attribute [local irreducible] Go.Aw.Am
theorem Yn {o1 o2:AE} {f:V} (h:R (.ret (.bool true)) st):PC 42 [.slice 6 [] o1,.slice 6 [] o2,f] st R:=by
 refine pB Tryz.func42 ?_
 repeat' ((conv=>whnf);first|refine len_nil (λ_=>?_)|(refine AA ?_;intros)|(refine AB ?_ ?_<;>intro _)|fail)
 refine KO 17 [15,16] 0 (λk=>k=0) rfl Yl ?_
 intro k U
 subst U
 repeat' ((conv=>whnf);first|(refine AA ?_;intros)|(refine AB ?_ ?_<;>intro _)|fail)
 all_goals exact fin h rfl
theorem jf (h:R (.ret (.bool true)) st):PC 17 [enc Gg,enc Gg] st R:=by
 refine pB Tryz.func17 ?_
 repeat' ((conv=>whnf);first|with_reducible refine Wt rfl ?_|with_reducible refine Wi ?_|(refine AA ?_;intros)|(refine AB ?_ ?_<;>intro _)|refine Yn ?_)
 all_goals exact fin h rfl
theorem Zz (hn:n=Gg) (h:R (.ret (.bool true)) st):PC 17 [enc n,.agg CD] st R:=by
 subst hn
 exact FL (args':=[enc Gg,enc Gg]) rfl (jf h)
end
inductive xZ:Nd->Nd->Prop where
 |mk {k f:Int} {t:List UInt8} {a b a' b':Int} {l m:List Nd}:E7 xZ l m->xZ (.mk k f t a b l) (.mk k f t a' b' m)
theorem E7.at {T:Nd->Nd->Prop} {l m:List Nd} (h:E7 T l m):∀{i:Nat} {x y:Nd},l[i]? =some x->m[i]? =some y->T x y:=by
 induction h with
 |nil=>intro i x y h;simp at h
 |cons h1 _ ih=>
  intro i x y U hy
  cases i with
  |zero=>simp at U hy;subst U;subst hy;exact h1
  |succ i=>rw [List.getElem?_cons_succ] at U hy;exact ih U hy
mutual
theorem xZ.oY:∀n:Nd,xZ n n
 | .mk k f t a b l=>.mk (E7.oY l)
theorem E7.oY:∀l:List Nd,E7 xZ l l
 |[]=>.nil
 |n::r=>.cons (xZ.oY n) (E7.oY r)
end
mutual
theorem cE:∀n:Nd,(HU n).size=n.size
 | .mk k f t l c ks=>by
   rw [HU]
   split
   .rfl
   .rw [Nd.size,Nd.size,PY ks]
theorem PY:∀l:List Nd,AD (Fw l)=AD l
 |[]=>rfl
 |n::r=>by rw [Fw,AD,AD,cE n,PY r]
end
mutual
theorem gr:∀n:Nd,(Fe n).size=n.size
 | .mk k f t l c ks=>by rw [Fe,Nd.size,Nd.size,Rr ks]
theorem Rr:∀l:List Nd,AD (Dr l)=AD l
 |[]=>rfl
 |n::r=>by rw [Dr,AD,AD,gr n,Rr r]
end
mutual
theorem gu:∀n:Nd,B4 (Fe n)=B4 n
 | .mk k f t l c ks=>by rw [Fe,B4,B4,Rt ks]
theorem Rt:∀l:List Nd,BC (Dr l)=BC l
 |[]=>rfl
 |n::r=>by rw [Dr,BC,BC,gu n,Rt r]
end
theorem Tg:∀(l:List Nd) (x:Nd),AD (l++[x])=AD l+x.size
 |[],x=>by rw [List.nil_append,AD,AD,AD];omega
 |a::l,x=>by rw [List.cons_append,AD,AD,Tg l x];omega
theorem ZF (h:l[k]? =some x):AD (l.take (k+1))=AD (l.take k)+x.size:=by
 rw [List.take_add_one,h]
 exact Tg _ x
theorem J8:∀(l:List Nd) (k:Nat),AD (l.take k)<=AD l
 |[],k=>by rw [List.take_nil];exact Nat.le_refl _
 |a::l,0=>by rw [List.take_zero,AD];omega
 |a::l,k+1=>by rw [List.take_succ_cons,AD,AD];have:=J8 l k;omega
theorem RR {a b:Int} {K:Int->Prop} (e:a=b) (U: -9223372036854775808<=b) (h1:b<=9223372036854775807) (k:K b):∃r,r=IntKind.i64.wrap a/\K r:=by
 subst e;exact Wq U h1 k
section
variable {st:St} {R:Au->St->Prop}
attribute [local irreducible] Go.Aw.Am
theorem Dn:∀(m:Nat) {n:Nd} {st:St} {R:Au->St->Prop},n.size<=m->n.size<=1000000000->R (.ret (.int .i64 (n.size:Nat))) st->PC 22 [enc n] st R:=by
 intro m
 induction m with
 |zero=>intro n st R hm;cases n;rw [Nd.size] at hm;omega
 |succ m ih=>
  intro n st R hm hz h
  have hsz:n.size=1+AD n.kids:=by cases n;rw [Nd.size];rfl
  have hk:=Jr n
  refine pB Tryz.func22 ?_
  repeat' ((conv=>whnf);first|(refine AA ?_;intros)|(refine AB ?_ ?_<;>intro _)|fail)
  refine Dc (α:=Nat) (λi=>[(3,.int .i64 ((1+AD (n.kids.take i):Nat):Int)),(4,.int .i64 (i:Nat))]) [1] (λ_=>[]) [0] (λ_=>st) (λi=>i<=n.kids.length) (λi=>n.kids.length - i) 0 (Nat.zero_le _) Yl (St.le_refl _) ?_
  intro i hi
  by_cases U:i<n.kids.length
  .obtain ⟨x,hx⟩:∃x,n.kids[(i:Int).toNat]? =some x:=⟨_,List.getElem?_eq_getElem U⟩
   have hxs:=Cp (List.mem_of_getElem? hx)
   have ht:=ZF (show n.kids[i]? =some x from hx)
   have hle:=J8 n.kids (i+1)
   have hrec:∀{st:St} {R:Au->St->Prop},R (.ret (.int .i64 (x.size:Nat))) st->PC 22 [enc x] st R:=λh=>ih AC AC h
   have he:((1+AD (n.kids.take i):Nat):Int)+(x.size:Int)=((1+AD (n.kids.take (i+1)):Nat):Int):=AC
   repeat' ((conv=>whnf);first|refine Wm hx AC ?_|refine RR he AC AC ?_|(refine AA ?_;intros)|(refine AB ?_ ?_<;>intro _)|refine hrec ?_|refine Wq (a:=(i:Int)+1) AC AC ?_)
   all_goals conv=>whnf
   all_goals exact ⟨i+1,U,Nat.sub_lt_sub_left U (Nat.lt_succ_self i),Yl,St.le_refl _⟩
  .have hi2:i=n.kids.length:=AC
   subst hi2
   rw [List.take_length,<-hsz]
   repeat' ((conv=>whnf);first|(refine AA ?_;intros)|(refine AB ?_ ?_<;>intro _)|fail)
   all_goals exact fin h rfl
end
mutual
def Fp:Nd->Nat
 | .mk k _ _ _ _ ks=>(if k=17 then 1 else 0)+BX ks
def BX:List Nd->Nat
 |[]=>0
 |n::r=>Fp n+BX r
end
mutual
def DS:Nd->Bool
 | .mk k _ _ _ _ ks=>k==35||Pr ks
def Pr:List Nd->Bool
 |[]=>false
 |n::r=>DS n||Pr r
end
mutual
def Kn:Nd->Bool
 | .mk k _ _ _ _ ks=>(k==17&&ks.length==1)||O9 ks
def O9:List Nd->Bool
 |[]=>false
 |n::r=>Kn n||O9 r
end
mutual
theorem S8:∀n:Nd,Fp n<=n.size
 | .mk k f t l c ks=>by
   have:=O5 ks
   rw [Fp,Nd.size]
   split<;>omega
theorem O5:∀l:List Nd,BX l<=AD l
 |[]=>Nat.le_refl _
 |n::r=>by
  have:=S8 n
  have:=O5 r
  rw [BX,AD];omega
end
theorem jc (h:l[k]? =some x):BX (l.take (k+1))=BX (l.take k)+Fp x:=by
 induction l generalizing k with
 |nil=>cases h
 |cons a r U=>
  cases k with
  |zero=>cases h;simp [BX]
  |succ k=>rw [List.take_succ_cons,List.take_succ_cons,BX,BX,U (by simpa using h)];omega
theorem MN:∀l:List Nd,Pr l=l.any DS
 |[]=>rfl
 |n::r=>by rw [Pr,MN r];rfl
theorem Tf:∀l:List Nd,O9 l=l.any Kn
 |[]=>rfl
 |n::r=>by rw [O9,Tf r];rfl
section
variable {st:St} {R:Au->St->Prop}
attribute [local irreducible] Go.Aw.Am
theorem tR:∀(m:Nat) {n:Nd} {st:St} {bs bc a:Nat} {R:Au->St->Prop},n.size<=m->bs≠bc->st.box bc=some [.func 88 [] [.ptr bs 0,.ptr bc 0]]->a+n.size<=1000000000->R (.ret (.Bp [])) (st.Aa bs [.int .i64 ((a+n.size:Nat):Int)])->
 PC 88 [enc n,.ptr bs 0,.ptr bc 0] (st.Aa bs [.int .i64 (a:Nat)]) R:=by
 intro m
 induction m with
 |zero=>intro n st bs bc a R hm;cases n;rw [Nd.size] at hm;omega
 |succ m ih=>
  intro n st bs bc a R hm hne hw hl h
  have hsz:n.size=1+AD n.kids:=by cases n;rw [Nd.size];rfl
  refine pB Tryz.func88 ?_
  have hW:∀v,(st.Aa bs v).box bc=some [.func 88 [] [.ptr bs 0,.ptr bc 0]]:=λv=>by rw [St.Ak hne];exact hw
  have he0:(a:Int)+1=((a+1:Nat):Int):=AC
  repeat' ((conv=>whnf);first|refine RR he0 AC AC ?_|(refine AA ?_;intros)|(refine AB ?_ ?_<;>intro _)|refine Al (St.Ah ..) ?_)
  refine Dc (α:=Nat) (λi=>[(11,.int .i64 (i:Nat))]) [1,2,9,10] (λ_=>[]) [] (λi=>st.Aa bs [.int .i64 ((a+1+AD (n.kids.take i):Nat):Int)]) (λi=>i<=n.kids.length) (λi=>n.kids.length - i) 0 (Nat.zero_le _) Yl (by simp only [St.set_set];exact St.le_refl _) ?_
  intro i hi
  by_cases hlt:i<n.kids.length
  .obtain ⟨x,hx⟩:∃x,n.kids[(i:Int).toNat]? =some x:=⟨_,List.getElem?_eq_getElem hlt⟩
   have hxs:=Cp (List.mem_of_getElem? hx)
   have ht:=ZF (show n.kids[i]? =some x from hx)
   have hle:=J8 n.kids (i+1)
   have U:(i:Int)<(n.kids.length:Int):=AC
   have hrec:∀{R:Au->St->Prop},R (.ret (.Bp [])) (st.Aa bs [.int .i64 ((a+1+AD (n.kids.take (i+1)):Nat):Int)])->PC 88 [enc x,.ptr bs 0,.ptr bc 0] (st.Aa bs [.int .i64 ((a+1+AD (n.kids.take i):Nat):Int)]) R:=λh=>ih AC hne hw AC (by rw [show a+1+AD (n.kids.take i)+x.size=a+1+AD (n.kids.take (i+1)) by omega];exact h)
   repeat' ((conv=>whnf);first|refine Wv U ?_|refine Wm hx AC ?_|(refine AA ?_;intros)|(refine AB ?_ ?_<;>intro _)|refine Al (hW _) ?_|refine hrec ?_|refine Wq (a:=(i:Int)+1) AC AC ?_)
   all_goals conv=>whnf
   all_goals exact ⟨i+1,hlt,Nat.sub_lt_sub_left hlt (Nat.lt_succ_self i),Yl,St.le_refl _⟩
  .have hi2:i=n.kids.length:=AC
   subst hi2
   rw [List.take_length,show a+1+AD n.kids=a+n.size by omega]
   have U:¬(n.kids.length:Int)<(n.kids.length:Int):=AC
   repeat' ((conv=>whnf);first|refine Ww U ?_|(refine AA ?_;intros)|(refine AB ?_ ?_<;>intro _)|fail)
   all_goals exact fin h rfl
theorem tS {bs bc:Nat} (U:bs≠bc) (hb:st.box bs=some [.int .i64 0]) (hw:st.box bc=some [.func 88 [] [.ptr bs 0,.ptr bc 0]]) (hl:n.size<=1000000000) (h:R (.ret (.Bp [])) (st.Aa bs [.int .i64 (n.size:Nat)])):PC 88 [enc n,.ptr bs 0,.ptr bc 0] st R:=by
 have:=tR n.size (n:=n) (st:=st) (bs:=bs) (bc:=bc) (a:=0) (R:=R) (Nat.le_refl _) U hw AC (by rw [Nat.zero_add];exact h)
 rw [show st.Aa bs [.int .i64 ((0:Nat):Int)]=st from St.KX hb] at this
 exact this
theorem pH (hl:n.size<=1000000000) (h:∀st',st.le st'->R (.ret (.int .i64 (n.size:Nat))) st'):PC 59 [enc n] st R:=by
 refine DH Ab [3,4] Tryz.func59 rfl Do ?_
 repeat' ((conv=>whnf);first|(refine AA ?_;intros)|(refine AB ?_ ?_<;>intro _)|refine DZ (λb f=>?_)|refine Al (St.Ah ..) ?_)
 rename_i b1 f1
 obtain ⟨U,f2⟩:=AX f
 have hb:∀C0 C1 C2,((((st.Aa b1 C0).Aa b1 [.int .i64 0]).Aa b C1).Aa b C2).box b1=some [.int .i64 0]:=λ_ _ _=>by rw [St.Ak U.symm,St.Ak U.symm,St.Ah]
 repeat' ((conv=>whnf);first|(refine AA ?_;intros)|(refine AB ?_ ?_<;>intro _)|refine tS U (hb _ _ _) (St.Ah ..) hl ?_|refine Al (St.Ah ..) ?_)
 all_goals exact AY rfl (h _ (St.Af (St.Af (St.Af (St.Af (St.Af (St.le_refl _) f1.1 _) f1.1 _) (AX f2).2.1 _) (AX f2).2.1 _) f1.1 _))
theorem Xi:∀(m:Nat) {n:Nd} {st:St} {R:Au->St->Prop},n.size<=m->n.size<=1000000000->R (.ret (.int .i64 (Fp n:Nat))) st->PC 35 [enc n] st R:=by
 intro m
 induction m with
 |zero=>intro n st R hm;cases n;rw [Nd.size] at hm;omega
 |succ m ih=>
  intro n st R hm hz h
  have hr:Fp n=(if n.kind=17 then 1 else 0)+BX n.kids:=by cases n;rw [Fp];rfl
  have hk:=Jr n
  have hrl:=S8 n
  refine AO Ab [] Tryz.func35 rfl Do rfl ?_
  refine Ag (Ai Ab ?_)
  repeat' ((conv=>whnf);first|(refine AA ?_;intros)|(refine AB ?_ ?_<;>intro _)|fail)
  refine Ag (Ai Ab ?_)
  repeat' ((conv=>whnf);first|(refine AA ?_;intros)|(refine AB ?_ ?_<;>intro _)|fail)
  refine FT (α:=Nat) (λa=>[(3,.int .i64 (a:Nat))]) (λ_=>[]) [1] [0] (λ_=>st) (λa=>Fp n=a+BX n.kids) (Ai Ab ?_) ?_
  .by_cases h1:n.kind=17
   .rw [if_pos h1] at hr
    repeat' ((conv=>whnf);first|(refine AA ?_;intros)|(refine AB ?_ ?_<;>intro _)|fail)
    all_goals exact ⟨1,hr,Yl,St.le_refl _⟩
   .rw [if_neg h1] at hr
    repeat' ((conv=>whnf);first|(refine AA ?_;intros)|(refine AB ?_ ?_<;>intro _)|fail)
    all_goals exact ⟨0,hr,Yl,St.le_refl _⟩
  .intro a ha
   refine Ai Ab ?_
   repeat' ((conv=>whnf);first|(refine AA ?_;intros)|(refine AB ?_ ?_<;>intro _)|fail)
   refine Dc (α:=Nat) (λi=>[(3,.int .i64 ((a+BX (n.kids.take i):Nat):Int)),(4,.int .i64 (i:Nat))]) [1] (λ_=>[]) [0] (λ_=>st) (λi=>i<=n.kids.length) (λi=>n.kids.length - i) 0 (Nat.zero_le _) Yl (St.le_refl _) ?_
   intro i hi
   by_cases U:i<n.kids.length
   .obtain ⟨x,hx⟩:∃x,n.kids[(i:Int).toNat]? =some x:=⟨_,List.getElem?_eq_getElem U⟩
    have hxs:=Cp (List.mem_of_getElem? hx)
    have ht:=jc (show n.kids[i]? =some x from hx)
    have hle:=Nat.le_trans (O5 (n.kids.take (i+1))) (J8 n.kids (i+1))
    have hsk:AD n.kids<n.size:=G0 n
    have hrec:∀{st:St} {R:Au->St->Prop},R (.ret (.int .i64 (Fp x:Nat))) st->PC 35 [enc x] st R:=λh=>ih AC AC h
    have he:((a+BX (n.kids.take i):Nat):Int)+(Fp x:Int)=((a+BX (n.kids.take (i+1)):Nat):Int):=AC
    repeat' ((conv=>whnf);first|refine Wm hx AC ?_|refine RR he AC AC ?_|(refine AA ?_;intros)|(refine AB ?_ ?_<;>intro _)|refine hrec ?_|refine Wq (a:=(i:Int)+1) AC AC ?_)
    all_goals conv=>whnf
    all_goals exact ⟨i+1,U,Nat.sub_lt_sub_left U (Nat.lt_succ_self i),Yl,St.le_refl _⟩
   .have hi2:i=n.kids.length:=AC
    subst hi2
    rw [List.take_length,<-ha]
    repeat' ((conv=>whnf);first|(refine AA ?_;intros)|(refine AB ?_ ?_<;>intro _)|fail)
    all_goals exact fin h rfl
theorem qb:∀(m:Nat) {n:Nd} {st:St} {R:Au->St->Prop},n.size<=m->R (.ret (.bool (DS n))) st->PC 36 [enc n] st R:=by
 intro m
 induction m with
 |zero=>intro n st R hm;cases n;rw [Nd.size] at hm;omega
 |succ m ih=>
  intro n st R hm h
  have hr:DS n=(n.kind==35||n.kids.any DS):=by cases n;rw [DS,MN];rfl
  rw [hr] at h
  refine pB Tryz.func36 ?_
  by_cases h1:n.kind=35
  .rw [h1] at h
   repeat' ((conv=>whnf);first|(refine AA ?_;intros)|(refine AB ?_ ?_<;>intro _)|fail)
   all_goals exact fin h rfl
  .rw [show (n.kind==35)=false by simpa using h1,Bool.false_or] at h
   repeat' ((conv=>whnf);first|(refine AA ?_;intros)|(refine AB ?_ ?_<;>intro _)|fail)
   refine Dc (α:=Nat) (λi=>[(3,.int .i64 (i:Nat))]) [1] (λ_=>[]) [0] (λ_=>st) (λi=>i<=n.kids.length/\n.kids.any DS=(n.kids.drop i).any DS) (λi=>n.kids.length - i) 0 ⟨Nat.zero_le _,rfl⟩ Yl (St.le_refl _) ?_
   rintro i ⟨hi,ha⟩
   by_cases hlt:i<n.kids.length
   .obtain ⟨x,hx⟩:∃x,n.kids[(i:Int).toNat]? =some x:=⟨_,List.getElem?_eq_getElem hlt⟩
    have hxs:=Cp (List.mem_of_getElem? hx)
    rw [drop_at (show n.kids[i]? =some x from hx),List.any_cons] at ha
    cases hb:DS x with
    |true=>
     rw [hb,Bool.true_or] at ha
     rw [ha] at h
     have U:∀{st:St} {R:Au->St->Prop},R (.ret (.bool true)) st->PC 36 [enc x] st R:=λh=>ih AC (by rw [hb];exact h)
     repeat' ((conv=>whnf);first|refine Wm hx AC ?_|(refine AA ?_;intros)|(refine AB ?_ ?_<;>intro _)|refine U ?_)
     all_goals exact fin h rfl
    |false=>
     rw [hb,Bool.false_or] at ha
     have U:∀{st:St} {R:Au->St->Prop},R (.ret (.bool false)) st->PC 36 [enc x] st R:=λh=>ih AC (by rw [hb];exact h)
     repeat' ((conv=>whnf);first|refine Wm hx AC ?_|(refine AA ?_;intros)|(refine AB ?_ ?_<;>intro _)|refine U ?_|refine Wq (a:=(i:Int)+1) AC AC ?_)
     all_goals conv=>whnf
     all_goals exact ⟨i+1,⟨hlt,ha⟩,Nat.sub_lt_sub_left hlt (Nat.lt_succ_self i),Yl,St.le_refl _⟩
   .rw [List.drop_of_length_le AC,List.any_nil] at ha
    rw [ha] at h
    repeat' ((conv=>whnf);first|(refine AA ?_;intros)|(refine AB ?_ ?_<;>intro _)|fail)
    all_goals exact fin h rfl
theorem ZE:∀(m:Nat) {n:Nd} {st:St} {R:Au->St->Prop},n.size<=m->R (.ret (.bool (Kn n))) st->PC 37 [enc n] st R:=by
 intro m
 induction m with
 |zero=>intro n st R hm;cases n;rw [Nd.size] at hm;omega
 |succ m ih=>
  intro n st R hm h
  have hr:Kn n=((n.kind==17&&n.kids.length==1)||n.kids.any Kn):=by cases n;rw [Kn,Tf];rfl
  rw [hr] at h
  refine AO Ab [] Tryz.func37 rfl Do rfl ?_
  by_cases h1:n.kind=17/\n.kids.length=1
  .rw [show (n.kind==17&&n.kids.length==1)=true by simp [h1.1,h1.2],Bool.true_or] at h
   obtain ⟨h1,h2⟩:=h1
   have h2:(n.kids.length:Int)=1:=AC
   refine Ai Ab ?_
   repeat' ((conv=>whnf);first|(refine AA ?_;intros)|(refine AB ?_ ?_<;>intro _)|fail)
   all_goals exact fin h rfl
  .rw [show (n.kind==17&&n.kids.length==1)=false by simp only [Bool.and_eq_false_iff,beq_eq_false_iff_ne];omega,Bool.false_or] at h
   have h2:¬n.kind=17\/¬(n.kids.length:Int)=1:=AC
   refine Ag (Ai Ab ?_)
   repeat' ((conv=>whnf);first|(refine AA ?_;intros)|(refine AB ?_ ?_<;>intro _)|fail)
   refine FT (α:=Unit) (λ_=>[]) (λ_=>[]) [1] [0] (λ_=>st) (λ_=>True) (Ai Ab ?_) ?_
   .skip
    repeat' ((conv=>whnf);first|(refine AA ?_;intros)|(refine AB ?_ ?_<;>intro _)|fail)
    all_goals first|exact ⟨(),trivial,Yl,St.le_refl _⟩|(exfalso;omega)
   .rintro _ _
    refine Ai Ab ?_
    repeat' ((conv=>whnf);first|(refine AA ?_;intros)|(refine AB ?_ ?_<;>intro _)|fail)
    refine Dc (α:=Nat) (λi=>[(3,.int .i64 (i:Nat))]) [1] (λ_=>[]) [0] (λ_=>st) (λi=>i<=n.kids.length/\n.kids.any Kn=(n.kids.drop i).any Kn) (λi=>n.kids.length - i) 0 ⟨Nat.zero_le _,rfl⟩ Yl (St.le_refl _) ?_
    rintro i ⟨hi,ha⟩
    by_cases hlt:i<n.kids.length
    .obtain ⟨x,hx⟩:∃x,n.kids[(i:Int).toNat]? =some x:=⟨_,List.getElem?_eq_getElem hlt⟩
     have hxs:=Cp (List.mem_of_getElem? hx)
     rw [drop_at (show n.kids[i]? =some x from hx),List.any_cons] at ha
     cases hb:Kn x with
     |true=>
      rw [hb,Bool.true_or] at ha
      rw [ha] at h
      have U:∀{st:St} {R:Au->St->Prop},R (.ret (.bool true)) st->PC 37 [enc x] st R:=λh=>ih AC (by rw [hb];exact h)
      repeat' ((conv=>whnf);first|refine Wm hx AC ?_|(refine AA ?_;intros)|(refine AB ?_ ?_<;>intro _)|refine U ?_)
      all_goals exact fin h rfl
     |false=>
      rw [hb,Bool.false_or] at ha
      have U:∀{st:St} {R:Au->St->Prop},R (.ret (.bool false)) st->PC 37 [enc x] st R:=λh=>ih AC (by rw [hb];exact h)
      repeat' ((conv=>whnf);first|refine Wm hx AC ?_|(refine AA ?_;intros)|(refine AB ?_ ?_<;>intro _)|refine U ?_|refine Wq (a:=(i:Int)+1) AC AC ?_)
      all_goals conv=>whnf
      all_goals exact ⟨i+1,⟨hlt,ha⟩,Nat.sub_lt_sub_left hlt (Nat.lt_succ_self i),Yl,St.le_refl _⟩
    .rw [List.drop_of_length_le AC,List.any_nil] at ha
     rw [ha] at h
     repeat' ((conv=>whnf);first|(refine AA ?_;intros)|(refine AB ?_ ?_<;>intro _)|fail)
     all_goals exact fin h rfl
end
theorem Kc (h:DS n=false):n.kind≠35/\∀x ∈ n.kids,DS x=false:=by
 cases n with
 |mk k f t l c ks=>
  rw [DS,Bool.or_eq_false_iff,MN,List.any_eq_false] at h
  exact ⟨show k≠35 by simpa using h.1,λx U=>by simpa using h.2 x U⟩
theorem GD {frm:Nat} {env:List Fx}:∀{l:List Nd},(∀x ∈ l,DS x=false)->E2 frm l env=.inr env
 |[],_=>rfl
 |n::r,h=>by
  rw [E2,if_neg (Kc (h n List.mem_cons_self)).1]
  exact GD λx U=>h x (List.mem_cons_of_mem _ U)
theorem MA (h:DS n=false):∀x ∈ Ei n i,DS x=false:=by
 unfold Ei
 split
 .rename_i b hb
  split
  .exact (Kc ((Kc h).2 b (List.mem_of_getElem? hb))).2
  .exact λx U=>by cases U
 .exact λx U=>by cases U
theorem OT (h:DS n=false):∀x ∈ GW n,DS x=false:=by
 unfold GW
 split
 .rename_i b hb
  split
  .exact (Kc ((Kc h).2 b (List.mem_of_getLast? hb))).2
  .exact λx U=>by cases U
 .exact λx U=>by cases U
theorem TE (h:DS n=false):∀x ∈ Hd n,DS x=false:=by
 unfold Hd
 split
 .rename_i b hb
  split
  .exact OT ((Kc h).2 b (List.mem_of_getLast? hb))
  .exact λx U=>by cases U
 .exact λx U=>by cases U
theorem Rw {frm:Nat} {env:List Fx}:∀{l:List Nd},(∀x ∈ l,DS x=false)->E3 frm l env=.inr env
 |[],_=>rfl
 |n::r,h=>by
  rw [E3]
  have U:=Rw (frm:=frm) (env:=env) λx hx=>h x (List.mem_cons_of_mem n hx)
  split
  .rw [GD (TE (h n List.mem_cons_self))];exact U
  .exact U
theorem Uf {env:List Fx}:∀{l:List Nd},(∀x ∈ l,DS x=false)->HG l env=.inr env
 |[],_=>rfl
 |n::r,h=>by
  rw [HG]
  have U:=Uf (env:=env) λx hx=>h x (List.mem_cons_of_mem n hx)
  split
  .rw [GD (MA (h n List.mem_cons_self))];exact U
  .exact U
theorem af (h:DS n=false):Dz env n=.inr env:=by
 unfold Dz
 split
 .rw [GD (OT h)];exact Rw (OT h)
 .split
  .exact GD (MA h)
  .split
   .exact GD (TE h)
   .split
    .exact Uf λx U=>(Kc h).2 x (List.mem_of_mem_drop U)
    .rfl
theorem gZ {k:Int} {here:List Fx} (h:DS n=false):Gl k p i n here=.inr here:=by
 unfold Gl
 split
 .exact GD (MA h)
 .rfl
theorem IW (h:n.kind≠17):OI env n=.inr n:=by
 unfold OI O0
 rw [if_neg h]
mutual
theorem UN:∀(n:Nd) {env:List Fx} {p:Int},Fp n=0->DS n=false->CP env p n=.inr n
 | .mk k f t l c ks,env,p,h1,U=>by
   rw [CP,af U]
   dsimp only
   rw [Fp] at h1
   rw [DS,Bool.or_eq_false_iff] at U
   rw [Ux ks AC U.2]
   refine IW (λe=>?_)
   have e:k=17:=e
   rw [if_pos e] at h1;omega
theorem Ux:∀(l:List Nd) {all here:List Fx} {k p:Int} {i:Nat},BX l=0->Pr l=false->CI all k p i here l=.inr l
 |[],all,here,k,p,i,_,_=>rfl
 |n::r,all,here,k,p,i,h1,U=>by
  rw [BX] at h1
  rw [Pr,Bool.or_eq_false_iff] at U
  rw [CI,gZ U.1]
  dsimp only
  rw [UN n AC U.1]
  dsimp only
  rw [Ux r AC U.2]
end
theorem ud {k q:Int} (U:p≠27) (hq:q≠27):FD k p=FD k q:=by
 unfold FD
 rw [show (p==27)=false by simpa using U,show (q==27)=false by simpa using hq]
theorem mS {k p q:Int} (e:FD k p=FD k q) {all:List Fx}:∀(l:List Nd) (i:Nat) (here:List Fx),CI all k p i here l=CI all k q i here l
 |[],i,here=>rfl
 |n::r,i,here=>by
  rw [CI,CI]
  have:Gl k p i n here=Gl k q i n here:=by unfold Gl;rw [e]
  rw [this]
  cases Gl k q i n here with
  |inl e=>rfl
  |inr U=>
   dsimp only
   rw [mS e r]
theorem vq {q:Int} (e:FD n.kind p=FD n.kind q):CP env p n=CP env q n:=by
 cases n with
 |mk k f t l c ks=>
  have e:FD k p=FD k q:=e
  rw [CP,CP]
  cases Dz env _ with
  |inl e=>rfl
  |inr a=>dsimp only;rw [mS e]
theorem Zr {q:Int} (U:p≠27) (hq:q≠27) (n:Nd):CP env p n=CP env q n:=vq (ud U hq)
theorem JL {k:Int} {here:List Fx} (h:FD k p=false):Gl k p i n here=.inr here:=by
 unfold Gl
 rw [if_neg (λe=>by rw [h] at e;exact absurd e.1 Do)]
theorem iY {a b:Nd}:CP [] 0 (Ar 5 [a,b])=(match CP [] 0 a with| .inl e=>.inl e| .inr t=>match CP [] 0 b with| .inl e=>.inl e| .inr u=>.inr (Ar 5 [t,u])):=by
 unfold Ar
 rw [CP,show Dz [] (.mk 5 0 [] 0 0 [a,b])=.inr [] from rfl]
 dsimp only
 rw [CI,JL rfl]
 dsimp only
 rw [if_neg Do,if_neg Do,Zr (p:=5) (q:=0) Do Do]
 cases CP [] 0 a with
 |inl e=>rfl
 |inr t=>
  dsimp only
  rw [CI,JL rfl]
  dsimp only
  rw [if_neg Do,Zr (p:=5) (q:=0) Do Do]
  cases CP [] 0 b with
  |inl e=>rfl
  |inr u=>rfl
theorem S9 {k:Int} (h:k≠17):Fp (Ar k l)=BX l:=by
 unfold Ar
 rw [Fp,if_neg h,Nat.zero_add]
mutual
theorem Mw {env:List Fx}:∀(k:Nat) {o:Fx} {l:List Nd} {q:Nd×List Nd},CM env k o l=some q->BX l=0->Fp q.1=0/\BX q.2=0
 |0,o,l,q,h,_=>by cases h
 |k+1,o,[],q,h,_=>by cases h
 |k+1,o,n::r,q,h,hr=>by
  rw [CM] at h
  rw [BX] at hr
  split at h
  .split at h
   .cases h
   .split at h
    .rename_i p hp
     have U:=Mw k hp AC
     exact Po k h (by rw [S9 Do,BX,BX,BX];omega) U.2
    .cases h
  .exact Po k h AC AC
theorem Po {env:List Fx}:∀(k:Nat) {o:Fx} {n:Nd} {l:List Nd} {q:Nd×List Nd},ED env k o n l=some q->Fp n=0->BX l=0->Fp q.1=0/\BX q.2=0
 |0,o,n,l,q,h,_,_=>by cases h
 |k+1,o,n,[],q,h,h1,U=>by cases h;exact ⟨h1,U⟩
 |k+1,o,n,p::r,q,h,h1,U=>by
  rw [ED] at h
  split at h
  .cases h
  .split at h
   .cases h;exact ⟨h1,U⟩
   .rw [BX] at U
    split at h
    .rename_i q' hq
     have h3:=Mw k hq AC
     exact Po k h (by rw [S9 Do,BX,BX,BX,BX];omega) h3.2
    .cases h
end
theorem l4 {t:Nd} (h:OI env n=.inr t) (hk:BX n.kids=0):Fp t=0:=by
 by_cases U:n.kind=17
 .unfold OI O0 at h
  rw [if_pos U] at h
  split at h
  .cases h
  .rename_i t' ht
   cases h
   split at ht
   .split at ht
    .rename_i p hp
     cases ht
     exact (Mw _ hp hk).1
    .cases ht
   .cases ht
 .rw [IW U] at h
  cases h
  cases n with
  |mk k f t l c ks=>
   rw [Fp,if_neg (show ¬k=17 from U),Nat.zero_add]
   exact hk
mutual
theorem Zs:∀(n:Nd) {env:List Fx} {p:Int} {t:Nd},CP env p n=.inr t->Fp t=0
 | .mk k f t l c ks,env,p,u,h=>by
   rw [CP] at h
   split at h
   .cases h
   .split at h
    .cases h
    .rename_i ms U
     exact l4 h (PR ks U)
theorem PR:∀(l:List Nd) {all here:List Fx} {k p:Int} {i:Nat} {m:List Nd},CI all k p i here l=.inr m->BX m=0
 |[],all,here,k,p,i,m,h=>by cases h;rfl
 |n::r,all,here,k,p,i,m,h=>by
  rw [CI] at h
  split at h
  .cases h
  .split at h
   .cases h
   .rename_i t ht
    split at h
    .cases h
    .rename_i ms U
     cases h
     rw [BX,Zs n ht,PR r U]
end
end Go.Proofs.Z
