/-
  Parts of a proof: lemmas that the last text uses.
-/
import Derived.Test.YtkidoddkbhchkaaGreatDoorS4
import Derived.Lib.Join
set_option linter.unusedVariables false
set_option linter.unusedSimpArgs false
set_option maxHeartbeats 16000000
namespace Go.Proofs.YtkidoddkbhchkaaGreatDoor
open Go Go.Aw
def C1 {α:Type} (q U:Sum (Int×Ae) α):Prop:=(∃s',q=.inl (2,s'))∨U=q
variable {A A':Ae→Rs}
theorem Tg (h:∀s,C1 (A s) (A' s)) (l:List Nd) (s:Ae):C1 (EU A l s) (EU A' l s):=by
 fun_induction EU A l s with
 |case1 l s U e1 h2=>
  rcases h s with ⟨s',e⟩|e
  ·rw [h2] at e;cases e;exact .inl ⟨s',rfl⟩
  ·right;rw [EU,if_pos U,e,h2]
 |case2 l s U p h2 h3 ih=>
  rcases h s with ⟨s',e⟩|e
  ·rw [h2] at e;cases e
  ·rw [Su (A:=A') (n:=p.1) (s':=p.2) U (by rw [e,h2]) h3];exact ih
 |case3 l s U p h2 h3=>exact .inl ⟨s,rfl⟩
 |case4 l s U=>right;rw [EU,if_neg U]
theorem H6 (h:∀s,C1 (A s) (A' s)) (s:Ae):C1 (Ft A s) (Ft A' s):=by
 unfold Ft
 rcases h s with ⟨s',e⟩|e
 ·rw [e];exact .inl ⟨s',rfl⟩
 ·rw [e]
  cases U:A s with
  |inl p=>exact .inr rfl
  |inr p=>
   dsimp only
   rcases Tg h [p.1] p.2 with ⟨s',e⟩|e
   ·rw [e];exact .inl ⟨s',rfl⟩
   ·rw [e];exact .inr rfl
theorem Te (h:∀s,C1 (A s) (A' s)) (l:List Nd) (s:Ae):C1 (E5 A l s) (E5 A' l s):=by
 fun_induction E5 A l s with
 |case1 l s U e1 h2=>
  rcases H6 h (Ad s).2.1 with ⟨s',e⟩|e
  ·rw [h2] at e;cases e;exact .inl ⟨s',rfl⟩
  ·right;rw [E5,if_pos U,e,h2]
 |case2 l s U p h2 h3 ih=>
  rcases H6 h (Ad s).2.1 with ⟨s',e⟩|e
  ·rw [h2] at e;cases e
  ·rw [Rh (A:=A') (n:=p.1) (s':=p.2) U (by rw [e,h2]) h3];exact ih
 |case3 l s U p h2 h3=>exact .inl ⟨s,rfl⟩
 |case4 l s U=>right;rw [E5,if_neg U]
theorem Ki (h:∀s,C1 (A s) (A' s)) (n:Nd) (s:Ae):C1 (Cw A n s) (Cw A' n s):=by
 unfold Cw
 rcases Te h [n] s with ⟨s',e⟩|e
 ·rw [e];exact .inl ⟨s',rfl⟩
 ·rw [e];exact .inr rfl
theorem K4 (h:∀s,C1 (A s) (A' s)) (s:Ae):C1 (Dg A s) (Dg A' s):=by
 unfold Dg
 rcases H6 h s with ⟨s',e⟩|e
 ·rw [e];exact .inl ⟨s',rfl⟩
 ·rw [e]
  cases U:Ft A s with
  |inl p=>exact .inr rfl
  |inr p=>exact Ki h p.1 p.2
theorem Tf (h:∀s,C1 (A s) (A' s)) (s:Ae):C1 (Eg A s) (Eg A' s):=by
 unfold Eg
 rcases H6 h s with ⟨s',e⟩|e
 ·rw [e];exact .inl ⟨s',rfl⟩
 ·rw [e]
  cases U:Ft A s with
  |inl p=>exact .inr rfl
  |inr p=>
   dsimp only
   split
   ·rcases K4 h (Ad p.2).2.1 with ⟨s',e⟩|e
    ·rw [e];exact .inl ⟨s',rfl⟩
    ·rw [e];exact .inr rfl
   ·exact Ki h p.1 p.2
theorem P5 (h:∀s,C1 (A s) (A' s)) (l:List Nd) (s:Ae):C1 (BT A l s) (BT A' l s):=by
 fun_induction BT A l s with
 |case1 l s U e1 h2=>
  rcases h (Ad s).2.1 with ⟨s',e⟩|e
  ·rw [h2] at e;cases e;exact .inl ⟨s',rfl⟩
  ·right;rw [BT,if_pos U,e,h2]
 |case2 l s U p h2 h3 ih=>
  rcases h (Ad s).2.1 with ⟨s',e⟩|e
  ·rw [h2] at e;cases e
  ·rw [Mu (Y:=A') (n:=p.1) (s':=p.2) U (by rw [e,h2]) h3];exact ih
 |case3 l s U p h2 h3=>exact .inl ⟨s,rfl⟩
 |case4 l s U=>right;rw [BT,if_neg U]
theorem Rq (h:∀s,C1 (A s) (A' s)) (s:Ae):C1 (DV A s) (DV A' s):=by
 unfold DV
 split
 ·exact .inr rfl
 ·rename_i p U
  split
  ·exact .inr rfl
  split
  ·exact .inr rfl
  split
  ·exact .inr rfl
  rcases h p.2 with ⟨s',e⟩|e
  ·rw [e];exact .inl ⟨s',rfl⟩
  ·rw [e]
   cases hq:A p.2 with
   |inl q=>exact .inr rfl
   |inr q=>
    dsimp only
    rcases P5 h [p.1,q.1] q.2 with ⟨s',e⟩|e
    ·rw [e];exact .inl ⟨s',rfl⟩
    ·rw [e];exact .inr rfl
theorem P4 (h:∀s,C1 (A s) (A' s)) (s:Ae):C1 (C0 A s) (C0 A' s):=by
 unfold C0
 split
 ·exact .inr rfl
 ·rename_i p U
  split
  ·exact .inr rfl
  rcases h p.2 with ⟨s',e⟩|e
  ·rw [e];exact .inl ⟨s',rfl⟩
  ·rw [e];exact .inr rfl
theorem MI (h:∀s,C1 (A s) (A' s)) (s:Ae):C1 (C3 A s) (C3 A' s):=by
 unfold C3
 split
 ·split
  ·split
   ·exact Rq h s
   ·exact P4 h s
  ·exact .inr rfl
 ·exact .inr rfl
theorem MJ:∀(d d':Nat),d≤d'→∀s,C1 (DD d s) (DD d' s)
 |0,d',_,s=>.inl ⟨s,rfl⟩
 |d+1,d'+1,h,s=>K4 (MI (MJ d d' (by omega))) s
namespace Rd
variable {α β γ σ:Type}
def Ap (a b:Rd α):Prop:=∀s,(∃e t,a.run s=.inl (e,t)∧e.1=2)∨b.run s=a.run s
theorem Ap.A0 {a:Rd α}:Ap a a:=fun _=>.inr rfl
theorem Ap.trans {a b c:Rd α} (h:Ap a b) (k:Ap b c):Ap a c:=fun s=>by
 rcases h s with h|h
 ·exact .inl h
 ·rcases k s with ⟨e,t,k,U⟩|k
  ·exact .inl ⟨e,t,h ▸ k,U⟩
  ·exact .inr (k.trans h)
theorem Ap.seq {m m':Rd α} {k U:α→Rd β} (h:Ap m m') (hk:∀v,Ap (k v) (U v)):Ap (seq m k) (seq m' U):=fun s=>by
 unfold Rd.seq
 dsimp only
 rcases h s with ⟨e,t,h,he⟩|h
 ·left;rw [h];exact ⟨e,t,rfl,he⟩
 ·rw [h]
  cases m.run s with
  |inl e=>exact .inr rfl
  |inr p=>exact hk p.1 p.2
theorem Ap.look {f U:Ae→Rd α} (h:∀s,Ap (f s) (U s)):Ap (look f) (look U):=fun s=>h s s
theorem Ap.ite {c:Prop} [Decidable c] {a b U b':Rd α} (h1:Ap a U) (h2:Ap b b'):Ap (if c then a else b) (if c then U else b'):=by split<;>assumption
theorem Ap.deep {b:Rd α}:Ap (fail Hu) b:=fun s=>.inl ⟨Hu,s,rfl,rfl⟩
theorem Ap.loop {body U:σ→Rd (Sum σ β)} (h:∀x,Ap (body x) (U x)) (x:σ):Ap (loop body x) (loop U x):=fun s=>by
 show (∃e t,iter body x s=.inl (e,t)∧e.1=2)∨iter U x s=iter body x s
 fun_induction iter body x s with
 |case1 x s e h1=>
  rcases h x s with ⟨e',t,h2,he⟩|h2
  ·rw [h1] at h2;cases h2;exact .inl ⟨_,_,rfl,he⟩
  ·right;rw [iter,h2,h1]
 |case2 x s y s1 h1=>
  rcases h x s with ⟨e',t,h2,he⟩|h2
  ·rw [h1] at h2;cases h2
  ·right;rw [iter,h2,h1]
 |case3 x s x' s1 h1 hlt ih=>
  rcases h x s with ⟨e',t,h2,he⟩|h2
  ·rw [h1] at h2;cases h2
  ·have e:iter U x s=iter U x' s1:=by
    rw [iter,h2,h1];dsimp only;rw [if_pos hlt]
   rw [e];exact ih
 |case4 x s x' s1 h1 hlt=>exact .inl ⟨_,_,rfl,rfl⟩
end Rd
open Rd (Ap)
structure Dw (L L':Eo):Prop where
 atom:Ap L.atom L'.atom
 exp:Ap L.exp L'.exp
 ops:Ap L.ops L'.ops
 decls:Ap L.decls L'.decls
 stmts:Ap L.stmts L'.stmts
 alts:Ap L.alts L'.alts
 Dz:∀o,Ap (L.Dz o) (L'.Dz o)
 list:∀o,Ap (L.list o) (L'.list o)
section
variable {L L':Eo} {A A' B B' C C' D D' E E':Rd Nd}
theorem Qr (h:Ap A A') {p:Nd→Bool}:Ap (Cz A p) (Cz A' p):=Ap.look fun s=>Ap.seq h fun n=>Ap.A0
theorem bW (h:Ap A A') {b:Bool}:Ap (Ed A b) (Ed A' b):=Ap.loop (fun l=>Ap.seq Ap.A0 fun l=>Ap.seq h fun n=>Ap.A0) _
theorem Ob (h:Ap A A'):Ap (Pv A) (Pv A'):=Ap.seq (bW h) fun _=>Ap.A0
theorem SY (h:Ap A A') {n:Nd}:Ap (Gc A n) (Gc A' n):=Ap.look fun s=>Ap.ite (Ap.seq Ap.A0 fun c=>Ap.seq h fun t=>Ap.A0) Ap.A0
theorem mb (h:Ap A A') (k:Ap B B'):Ap (Tx A B) (Tx A' B'):=Ap.seq (Ob h) fun _=>SY k
theorem SW (h:Dw L L') {a b:Nd}:Ap (Io L a b) (Io L' a b):=Ap.seq Ap.A0 fun _=>Ap.seq h.exp fun _=>Ap.A0
theorem Zb (h:Dw L L') (k:Ap A A'):Ap (Gj L A) (Gj L' A'):=
 have U:∀l,Ap (GZ A l) (GZ A' l):=fun l=>Ap.seq (Qr k) fun _=>Ap.A0
 Ap.seq Ap.A0 fun b=>Ap.seq (Ap.loop (fun l=>Ap.ite (U l) (Ap.look fun s=>Ap.ite (U l) Ap.A0)) _) fun l=>Ap.seq Ap.A0 fun a=>Ap.seq h.exp fun _=>Ap.A0
theorem XA (h:Dw L L') {l:List Nd} {w:List UInt8}:Ap (Jt L l w) (Jt L' l w):=Ap.seq Ap.A0 fun _=>Ap.seq Ap.A0 fun _=>Ap.seq h.exp fun _=>Ap.A0
theorem Y9 (h:Dw L L'):Ap (Gf L) (Gf L'):=Ap.seq Ap.A0 fun _=>Ap.seq h.exp fun _=>Ap.seq (XA h) fun _=>Ap.seq (XA h) fun _=>Ap.A0
theorem ia (h:Dw L L'):Ap (MD L) (MD L'):=Ap.seq Ap.A0 fun _=>Ap.seq h.exp fun _=>Ap.seq Ap.A0 fun _=>Ap.seq h.alts fun _=>Ap.A0
theorem bY (h:Dw L L'):Ap (ID L) (ID L'):=Ap.seq Ap.A0 fun _=>Ap.seq h.stmts fun _=>Ap.A0
theorem Oa (k:Ap A A'):Ap (F6 A) (F6 A'):=Ap.seq k fun n=>Ap.seq (Ap.loop (fun l=>Ap.look fun s=>Ap.ite (Ap.seq k fun _=>Ap.A0) Ap.A0) _) fun _=>Ap.A0
theorem mc (h:Dw L L'):Ap (TS L) (TS L'):=Ap.seq Ap.A0 fun _=>Ap.seq h.decls fun _=>SW h
theorem Ve (h:Dw L L') (k:Ap A A'):Ap (Df L A) (Df L' A'):=Ap.look fun s=>Ap.ite (Ap.ite (Zb h k) (Oa k)) (Ap.ite (Ap.ite (mc h) (Ap.ite (Y9 h) (Ap.ite (ia h) (Ap.ite (bY h) (Oa k))))) (Oa k))
theorem Qs (h:Dw L L') {o:Nd}:Ap (Fi L o) (Fi L' o):=Ap.look fun s=>Ap.ite (Ap.ite (h.Dz o) (Ap.seq Ap.A0 fun _=>Ap.seq h.ops fun _=>Ap.A0)) (h.Dz o)
theorem Zd (h:Dw L L') {o:Nd}:Ap (Hk L o) (Hk L' o):=Ap.look fun s=>Ap.ite (Ap.ite Ap.A0 (Qs h)) (Qs h)
theorem bV (h:Dw L L'):Ap (GK L) (GK L'):=Ap.seq Ap.A0 fun o=>Ap.look fun s=>Ap.ite Ap.A0 (Ap.ite Ap.A0 (Zd h))
theorem Ze (h:Dw L L'):Ap (Gm L) (Gm L'):=Ap.seq Ap.A0 fun o=>Ap.look fun s=>Ap.ite Ap.A0 (h.list o)
theorem hZ (h:Dw L L'):Ap (Gt L) (Gt L'):=Ap.look fun s=>Ap.ite (Ap.ite (Ap.ite (bV h) (Ze h)) (Ap.ite Ap.A0 (Ap.ite (Ap.seq Ap.A0 fun _=>Ap.seq h.atom fun _=>Ap.A0)
 (Ap.seq Ap.A0 fun n=>Ap.ite (Ap.look fun s=>Ap.ite (Ap.seq Ap.A0 fun _=>Ap.seq h.atom fun _=>Ap.A0) Ap.A0) Ap.A0)))) Ap.A0
theorem Zc (h:Dw L L') {n:Nd}:Ap (FO L n) (FO L' n):=
 have U:∀l,Ap (Ji L l) (Ji L' l):=fun l=>Ap.seq Ap.A0 fun _=>Ap.seq Ap.A0 fun _=>Ap.seq h.exp fun _=>Ap.A0
 Ap.seq Ap.A0 fun _=>Ap.seq (Ap.loop (fun l=>Ap.look fun s=>Ap.ite (Ap.ite (U l) Ap.A0) (U l)) _) fun _=>Ap.A0
theorem Nr (h:Dw L L'):Ap (FU L) (FU L'):=Ap.seq (hZ h) fun n=>Ap.loop (fun n=>Ap.look fun s=>Ap.ite (Ap.seq (Zc h) fun _=>Ap.A0) Ap.A0) _
theorem bT (h:Ap A A') (k:Ap B B') (j:Ap C C') {o:Nd}:Ap (BU A B C o) (BU A' B' C' o):=Ap.seq (bW h) fun p=>Ap.ite Ap.A0 (Ap.seq (SY k) fun e=>
 Ap.seq (Ap.loop (fun l=>Ap.look fun s=>Ap.ite (Ap.seq Ap.A0 fun _=>Ap.seq j fun _=>Ap.A0) Ap.A0) _) fun _=>Ap.A0)
theorem SX (h:Ap A A') {l:List Nd}:Ap (Ek A l) (Ek A' l):=Ap.seq Ap.A0 fun b=>Ap.seq h fun t=>Ap.loop (fun l=>Ap.look fun s=>Ap.ite (Ap.seq Ap.A0 fun _=>Ap.seq h fun _=>Ap.A0) Ap.A0) _
theorem ib (h:Ap A A') (k:Ap B B') {o:Nd}:Ap (Lk A B o) (Lk A' B' o):=
 have hc:∀l,Ap (MQ A l) (MQ A' l):=fun l=>Ap.look fun s=>Ap.ite (Ap.seq Ap.A0 fun _=>Ap.seq h fun _=>Ap.A0) Ap.A0
 Ap.seq h fun e=>Ap.look fun s=>Ap.ite (Ap.seq (SX k) fun _=>Ap.A0) (Ap.seq (Ap.loop (fun l=>Ap.ite (Ap.look fun s=>Ap.ite (Ap.seq Ap.A0 fun _=>Ap.look fun s=>Ap.ite Ap.A0 (Ap.seq h fun _=>Ap.A0)) (hc l)) (hc l)) _) fun _=>Ap.A0)
theorem Xx (h:Ap A A') {n:Nd}:Ap (MC A n) (MC A' n):=Ap.look fun s=>Ap.ite (Ap.ite (Ap.seq Ap.A0 fun _=>Ap.seq h fun _=>Ap.A0) Ap.A0) Ap.A0
theorem ic (h:Dw L L') (k:Ap A A'):Ap (M5 L A) (M5 L' A'):=Ap.look fun s=>Ap.ite (Ap.seq Ap.A0 fun _=>Ap.seq h.decls fun _=>Ap.look fun s=>Ap.ite (Ap.seq (SW h) fun _=>Xx k) Ap.A0) (Ap.seq k fun _=>Xx k)
theorem bU (h:Dw L L') (k:Ap A A') (j:Ap B B') {m:List UInt8}:Ap (Ss L A B m) (Ss L' A' B' m):=
 have U:∀l,Ap (Ig A B m l) (Ig A' B' m l):=fun l=>Ap.seq (SX j) fun _=>Ap.seq Ap.A0 fun _=>Ap.seq k fun _=>Ap.A0
 have hb:∀l,Ap (Un L A B m l) (Un L' A' B' m l):=fun l=>Ap.seq (Ap.loop (fun l=>Ap.ite (U l) (Ap.ite (Ap.look fun s=>Ap.ite (U l) Ap.A0) Ap.A0)) _) fun _=>Ap.look fun s=>Ap.ite (Ap.seq Ap.A0 fun _=>Ap.seq h.decls fun _=>Ap.A0) Ap.A0
 Ap.look fun s=>Ap.ite (Ap.seq Ap.A0 fun _=>Ap.seq k fun _=>hb _) (Ap.ite (hb _) Ap.A0)
theorem ma (h:Dw L L') (i:Ap A A') (k:Ap B B') (j:Ap C C'):Ap (SV L A B C) (SV L' A' B' C'):=Ap.seq i fun n=>Ap.ite (Ap.seq (bU h k j) fun _=>Ap.A0) Ap.A0
theorem bX (h:Ap A A') (k:Ap B B') {n:Nd}:Ap (Sx A B n) (Sx A' B' n):=Ap.ite (Ap.seq (Ap.loop (fun l=>Ap.look fun s=>Ap.ite (Ap.seq Ap.A0 fun _=>Ap.seq (Qr h) fun _=>Ap.A0) Ap.A0) _) fun _=>Ap.seq Ap.A0 fun _=>Ap.seq k fun _=>Ap.A0) Ap.A0
theorem Xy (h:Dw L L') (i:Ap A A') (j:Ap B B') (k:Ap C C') (l:Ap D D') (m:Ap E E'):Ap (MG L A B C D E) (MG L' A' B' C' D' E'):=
 Ap.look fun s=>Ap.ite Ap.A0 (Ap.seq j fun n=>Ap.look fun s=>Ap.ite (bX i m) (Ap.ite (bX i m) (Ap.ite (Ap.seq (bU h k l) fun _=>Ap.A0) Ap.A0)))
theorem KS (h:Ap A A') {p:Tk→Bool}:Ap (Da p A) (Da p A'):=
 have hb:∀f l,Ap (F7 p A f l) (F7 p A' f l):=fun f l=>Ap.seq Ap.A0 fun _=>Ap.look fun s=>Ap.seq Ap.A0 fun e=>Ap.ite Ap.A0 (Ap.seq h fun n=>Ap.A0)
 Ap.look fun s=>Ap.ite (Ap.seq Ap.A0 fun _=>Ap.seq (Ap.loop (hb _) _) fun _=>Ap.A0) (Ap.seq Ap.A0 fun _=>Ap.seq (Ap.loop (hb _) _) fun _=>Ap.A0)
theorem LQ (h:Dw L L'):Ap (GI L) (GI L'):=Ve h (Nr h)
theorem H2 (f:Ap A A') (h:Dw L L'):Ap (Hb A L) (Hb A' L'):=mb (LQ h) f
theorem IZ (f:Ap A A') (h:Dw L L'):Ap (JB A L) (JB A' L'):=ic h (H2 f h)
theorem od (f:Ap A A') (h:Dw L L'):Dw (oV A L) (oV A' L') where
 atom:=Nr h
 exp:=H2 f h
 ops:=Ob (LQ h)
 decls:=KS (Xy h (Nr h) (Ob (LQ h)) (H2 f h) (IZ f h) f)
 stmts:=KS (IZ f h)
 alts:=KS (ma h (Ob (LQ h)) (H2 f h) (IZ f h))
 Dz:=fun o=>bT (LQ h) f (H2 f h)
 list:=fun o=>ib (H2 f h) (IZ f h)
theorem Xz {d d':Nat} (h:d≤d'):Ap (Ee d) (Ee d'):=fun s=>by
 have hb:∀d,EJ (Eg (C3 (DD d))):=fun d=>Qv (LY (Hq d))
 rcases Tf (MI (MJ (d - 1) (d' - 1) (by omega))) s with ⟨t,e⟩|e
 ·left;exact ⟨_,t,Js (hb _) e,rfl⟩
 ·right
  cases U:Eg (C3 (DD (d - 1))) s with
  |inl p=>obtain ⟨x,t⟩:=p;rw [U] at e;exact (Js (hb _) e).trans (Js (hb _) U).symm
  |inr p=>rw [U] at e;exact (It e).trans (It U).symm
theorem eL:∀{d d':Nat},d≤d'→Dw (EP d) (EP d')
 |0,d',_=>⟨Ap.deep,Ap.deep,Ap.deep,Ap.deep,Ap.deep,Ap.deep,fun _=>Ap.deep,fun _=>Ap.deep⟩
 |d+1,d'+1,h=>od (Xz (by omega)) (eL (by omega))
end
def E3:Er→Ae→Prop:=fun _ _=>True
def Dv (A:Rd Nd):Prop:=∀s,Rd.wp A s (fun n s'=>A1 [n] s s') E3
theorem Dv.at {A:Rd Nd} (h:Dv A) {s s':Ae} {n:Nd} (e:A.run s=.inr (n,s')):A1 [n] s s':=by
 have:=h s
 unfold Rd.wp at this
 rw [e] at this;exact this
theorem Dv.of {A:Rd Nd} (h:∀s n s',A.run s=.inr (n,s')→A1 [n] s s'):Dv A:=fun s=>Rd.UZ (fun n s' e=>h s n s' e) (fun _ _ _=>trivial)
theorem Dv.size {A:Rd Nd} (h:Dv A) {s s':Ae} {n:Nd} (e:A.run s=.inr (n,s')):n.size+4*mu s'≤4*mu s:=(h.at e).lW
theorem Br {c:Prop} [Decidable c] {P Q:Prop} (U:c→P) (h2:¬c→Q):if c then P else Q:=by
 split
 ·exact U ‹_›
 ·exact h2 ‹_›
structure Real (s:Ae):Prop where
 ok:(Ad s).2.2=0
 lt:(Ad s).1.kind<18
 ne:(Ad s).1.kind≠0
section
variable {A B C:Rd Nd} {s s0 s1 s2 s':Ae} {Q:Nd→Ae→Prop} {L:Eo}
theorem Bq {k:Int} {x:List UInt8} (h:Ba s k x=true) (U:k≠0) (h1:k<18):Real s:=by
 have e:(Ad s).1.kind=k:=by
  unfold Ba at h
  simp only [Bool.and_eq_true,beq_iff_eq] at h
  exact h.1
 exact ⟨GC h U,by omega,by omega⟩
theorem LD (h:(Ad s).1.kind≠0) (U:(Ad s).1.kind<18):Real s:=⟨Ds h,U,h⟩
theorem Du {k:Int} (h:((Ad s).1.kind==k)=true) (U:k≠0) (h1:k<18):Real s:=by
 rw [beq_iff_eq] at h;exact LD (by omega) (by omega)
theorem D3 (h:B3 (Ad s).1=true):Real s:=by
 unfold B3 at h
 simp only [Bool.or_eq_true,Bool.and_eq_true,beq_iff_eq] at h
 exact LD (by omega) (by omega)
theorem D5 (h:IE (Ad s).1=true):Real s:=by
 unfold IE at h
 simp only [Bool.or_eq_true,Bool.and_eq_true,beq_iff_eq] at h
 exact LD (by omega) (by omega)
theorem D4 (h:Ic (Ad s).1=true):Real s:=by
 unfold Ic at h
 simp only [Bool.or_eq_true,Bool.and_eq_true,beq_iff_eq] at h
 exact LD (by omega) (by omega)
theorem Md {t:Tk} (h:Jz t=true):Ge t=true:=by
 unfold Jz at h
 unfold Ge
 simp only [Bool.or_eq_true,Bool.and_eq_true,beq_iff_eq] at h ⊢
 rcases h with h|h
 ·exact .inl (.inl (.inr h))
 ·exact .inr ⟨h.1,.inr h.2⟩
theorem Hm (U:Dv A) (k:∀n s1,A1 [n] s s1→Q n s1):Rd.wp A s Q E3:=Rd.wp_mono (U s) (fun n s1 _ h=>k n s1 h) (fun _ _ _ _=>trivial)
theorem Cv (U:Real s) (k:A1 [AJ (Ad s).1] s (Ad s).2.1→Q (AJ (Ad s).1) (Ad s).2.1):Rd.wp A7 s Q E3:=by
 unfold Rd.wp
 rw [Cu U.ok]
 exact k (.tok U.ok U.lt U.ne)
theorem P6 {k:Int} {x:List UInt8} (U:k≠0) (h1:k<18) (kk:∀n s1,A1 [n] s s1→Q n s1):Rd.wp (Cd k x) s Q E3:=by
 unfold Cd
 rw [Rd.Ao,Rd.AV]
 exact Br (fun e=>Cv (Bq e U h1) (kk _ _)) (fun _=>trivial)
theorem ZA {ks:List Int} (U:(ks.all fun k=>decide (k≠0)&&decide (k<18))=true) (kk:∀n s1,A1 [n] s s1→Q n s1):Rd.wp (IL ks) s Q E3:=by
 unfold IL
 rw [Rd.Ao,Rd.AV]
 refine Br (fun e=>?_) (fun _=>trivial)
 have:=List.all_eq_true.1 U _ (List.contains_iff_mem.1 e)
 simp only [Bool.and_eq_true,decide_eq_true_eq] at this
 exact Cv (LD this.1 this.2) (kk _ _)
theorem o9 {Q:Unit→Ae→Prop} (hi:Ge (Ad s).1=true) (k:A1 [] s (Ad s).2.1→Q () (Ad s).2.1):Rd.wp HR s Q E3:=by
 have e:=Ds (Lh hi).1
 unfold HR
 rw [Rd.wp_seq]
 unfold Rd.wp
 rw [Cu e]
 exact k (.skip e hi)
theorem EL {σ β:Type} {body:σ→Rd (Sum σ β)} {P:σ→Ae→Prop} {Q:β→Ae→Prop} (hb:∀x s,P x s→Rd.wp (body x) s (fun r s'=>match r with| .inl x'=>P x' s'| .inr y=>Q y s') E3) {x:σ} {s:Ae} (h0:P x s):Rd.wp (Rd.loop body x) s Q E3:=by
 have:∀y s',(Rd.loop body x).run s=.inr (y,s')→Q y s':=by
  show ∀y s',Rd.iter body x s=.inr (y,s')→Q y s'
  fun_induction Rd.iter body x s with
  |case1 x s e h=>intro y s' U;cases U
  |case2 x s y s1 h=>
   intro y' s' U;cases U
   have:=hb x s h0
   unfold Rd.wp at this
   rw [h] at this;exact this
  |case3 x s x' s1 h hlt ih=>
   have:=hb x s h0
   unfold Rd.wp at this
   rw [h] at this
   exact ih this
  |case4 x s x' s1 h hlt=>intro y s' U;cases U
 exact Rd.UZ this (fun _ _ _=>trivial)
theorem A1.ep {k:Int} {t:Tk} (h:A1 [AJ t] s s') (hk:k≠1) (U:k≠30):A1 [AD k [AJ t]] s s':=.node h hk (by
 have:M3 [AJ t]=3:=rfl
 unfold gV;rw [if_neg hk,if_neg U,this];decide)
theorem A1.gd {l:List Nd} (h:A1 l s s') (U:3≤l.length):A1 [AD 30 l] s s':=.node h (by decide) (by have:=NY (l:=l);have:gV 30=2:=rfl;omega)
theorem A1.Hs {n m:Nd} {l:List Nd} (h:A1 [n] s s1) (k:A1 (m::l) s1 s2):A1 (n::m::l) s s2:=.app h k
theorem A1.pass {l:List Nd} (h:A1 l s s1) (k:A1 [] s1 s2):A1 l s s2:=by
 have:=A1.app h k
 rwa [List.append_nil] at this
theorem A1.pre {l:List Nd} (h:A1 [] s s1) (k:A1 l s1 s2):A1 l s s2:=A1.app h k
theorem B4 {α:Type} {l:List α} {a b:α}:2≤(l++[a]++[b]).length:=by simp only [List.length_append,List.length_singleton];omega
structure KQ (L:Eo):Prop where
 atom:Dv L.atom
 exp:Dv L.exp
 ops:Dv L.ops
 decls:Dv L.decls
 stmts:Dv L.stmts
 alts:Dv L.alts
 Dz:∀o s,Rd.wp (L.Dz o) s (fun n s'=>∀s0,A1 [o] s0 s→A1 [n] s0 s') E3
 list:∀o s,Rd.wp (L.list o) s (fun n s'=>∀s0,A1 [o] s0 s→A1 [n] s0 s') E3
theorem pI {o:Nd} {B:Nd→Rd Nd} (hB:∀o s,Rd.wp (B o) s (fun n s'=>∀s0,A1 [o] s0 s→A1 [n] s0 s') E3) (U:A1 [o] s0 s) (k:∀n s1,A1 [n] s0 s1→Q n s1):Rd.wp (B o) s Q E3:=
 Rd.wp_mono (hB o s) (fun n s1 _ h=>k n s1 (h s0 U)) (fun _ _ _ _=>trivial)
theorem Rz:Dv Fv:=fun s=>by
 simp only [Fv,Rd.Ao,Rd.AV,Rd.wp_seq,Rd.wp_ret]
 repeat' (first
  |exact trivial
  |assumption
  |refine Br (fun e=>?_) (fun e=>?_)
  |refine Cv (Bq (by assumption) (by decide) (by decide)) (fun U=>?_)
  |refine Cv (Du (by assumption) (by decide) (by decide)) (fun U=>?_)
  |refine Cv (D3 (by assumption)) (fun U=>?_)
  |refine Cv (D5 (by assumption)) (fun U=>?_)
  |refine Cv (D4 (by assumption)) (fun U=>?_)
  |refine Cv (by assumption) (fun U=>?_)
  |refine P6 (by decide) (by decide) (fun n s1 U=>?_)
  |refine ZA (by decide) (fun n s1 U=>?_)
  |refine Hm (by assumption) (fun n s1 U=>?_)
  |exact A1.ep (by assumption) (by decide) (by decide)
  |refine A1.two ?_ (by decide) (by decide) (by first|exact Nat.le_of_ble_eq_true rfl|exact B4|(simp only [List.length_append,List.length_cons,List.length_nil];omega))
  |apply A1.Hs
  |apply A1.app)
theorem L2 {p:Nd→Bool} (hA:Dv A):Dv (Cz A p):=fun s=>by
 simp only [Cz,Rd.Ao,Rd.AV,Rd.wp_seq,Rd.wp_ret,Rd.Mx]
 repeat' (first
  |exact trivial
  |assumption
  |refine Br (fun e=>?_) (fun e=>?_)
  |refine Cv (Bq (by assumption) (by decide) (by decide)) (fun U=>?_)
  |refine Cv (Du (by assumption) (by decide) (by decide)) (fun U=>?_)
  |refine Cv (D3 (by assumption)) (fun U=>?_)
  |refine Cv (D5 (by assumption)) (fun U=>?_)
  |refine Cv (D4 (by assumption)) (fun U=>?_)
  |refine Cv (by assumption) (fun U=>?_)
  |refine P6 (by decide) (by decide) (fun n s1 U=>?_)
  |refine ZA (by decide) (fun n s1 U=>?_)
  |refine Hm (by assumption) (fun n s1 U=>?_)
  |refine A1.two ?_ (by decide) (by decide) (by first|exact Nat.le_of_ble_eq_true rfl|exact B4|(simp only [List.length_append,List.length_cons,List.length_nil];omega))
  |apply A1.Hs
  |apply A1.app)
theorem cW {l:List Nd} {Q:List Nd→Ae→Prop} (h0:A1 l s0 s) (k:∀l s1,A1 l s0 s1→Q l s1):Rd.wp (Iq l) s Q E3:=by
 refine EL (P:=fun l s=>A1 l s0 s) (fun l s h0=>?_) h0
 simp only [Ip,Rd.Ao,Rd.AV,Rd.wp_seq,Rd.wp_ret]
 repeat' (first
  |exact trivial
  |assumption
  |refine Br (fun e=>?_) (fun e=>?_)
  |refine Cv (Bq (by assumption) (by decide) (by decide)) (fun U=>?_)
  |refine Cv (Du (by assumption) (by decide) (by decide)) (fun U=>?_)
  |refine Cv (D3 (by assumption)) (fun U=>?_)
  |refine Cv (D5 (by assumption)) (fun U=>?_)
  |refine Cv (D4 (by assumption)) (fun U=>?_)
  |refine Cv (by assumption) (fun U=>?_)
  |refine P6 (by decide) (by decide) (fun n s1 U=>?_)
  |refine ZA (by decide) (fun n s1 U=>?_)
  |refine Hm (by assumption) (fun n s1 U=>?_)
  |exact A1.snoc h0 (A1.ep (by assumption) (by decide) (by decide))
  |exact k _ _ h0
  |refine A1.two ?_ (by decide) (by decide) (by first|exact Nat.le_of_ble_eq_true rfl|exact B4|(simp only [List.length_append,List.length_cons,List.length_nil];omega))
  |apply A1.Hs
  |apply A1.app)
theorem cZ {b:Bool} {Q:List Nd×Bool→Ae→Prop} (hA:Dv A) (k:∀l b s1,1≤l.length→(b=true→2≤l.length∧Ba s1 15 [41]=true)→A1 l s s1→Q (l,b) s1):Rd.wp (Ed A b) s Q E3:=by
 refine EL (P:=fun l s1=>A1 l s s1) (fun l s1 h0=>?_) (A1.nil s)
 simp only [GL,Rd.Ao,Rd.AV,Rd.wp_seq,Rd.wp_ret]
 refine cW h0 (fun l s1 h0=>?_)
 have ho:=Rz
 refine Hm hA (fun n s2 hn=>?_)
 refine Br (fun e=>?_) (fun e=>k _ _ _ (by rw [List.length_append,List.length_singleton];omega) (fun h=>by cases h) (h0.snoc hn))
 refine Hm ho (fun o s3 U=>?_)
 exact Br (fun _=>Br (fun e=>k _ _ _ (Nat.le_trans (by decide) B4) (fun _=>⟨B4,e⟩) ((h0.snoc hn).snoc U)) fun e=>(h0.snoc hn).snoc U) fun e=>(h0.snoc hn).snoc U
theorem OG (hA:Dv A):Dv (Pv A):=fun s=>by
 simp only [Pv,Rd.wp_seq,Rd.wp_ret]
 exact cZ hA fun l b s1 U _ h=>h.one (by decide) (by decide) U
theorem Tm {n:Nd} (hA:Dv A) (h0:A1 [n] s0 s) (k:∀n s1,A1 [n] s0 s1→Q n s1):Rd.wp (Gc A n) s Q E3:=by
 simp only [Gc,Rd.Ao,Rd.AV,Rd.wp_seq,Rd.wp_ret]
 repeat' (first
  |exact trivial
  |assumption
  |refine Br (fun e=>?_) (fun e=>?_)
  |refine Cv (Bq (by assumption) (by decide) (by decide)) (fun U=>?_)
  |refine Cv (Du (by assumption) (by decide) (by decide)) (fun U=>?_)
  |refine Cv (D3 (by assumption)) (fun U=>?_)
  |refine Cv (D5 (by assumption)) (fun U=>?_)
  |refine Cv (D4 (by assumption)) (fun U=>?_)
  |refine Cv (by assumption) (fun U=>?_)
  |refine P6 (by decide) (by decide) (fun n s1 U=>?_)
  |refine ZA (by decide) (fun n s1 U=>?_)
  |refine Hm (by assumption) (fun n s1 U=>?_)
  |refine k _ _ ?_
  |refine A1.two ?_ (by decide) (by decide) (by first|exact Nat.le_of_ble_eq_true rfl|exact B4|(simp only [List.length_append,List.length_cons,List.length_nil];omega))
  |apply A1.Hs
  |apply A1.app)
theorem mw (U:Dv A) (hB:Dv B):Dv (Tx A B):=fun s=>by
 simp only [Tx,Rd.wp_seq]
 exact Hm (OG U) fun n s1 h=>Tm hB h fun n s1 h=>h
theorem Tj {a b:Nd} (hL:KQ L) (h0:A1 [a,b] s0 s) (k:∀n s1,A1 [n] s0 s1→Q n s1):Rd.wp (Io L a b) s Q E3:=by
 have h1:=hL.exp
 simp only [Io,Rd.wp_seq,Rd.wp_ret]
 repeat' (first
  |exact trivial
  |assumption
  |refine Br (fun e=>?_) (fun e=>?_)
  |refine Cv (Bq (by assumption) (by decide) (by decide)) (fun U=>?_)
  |refine Cv (Du (by assumption) (by decide) (by decide)) (fun U=>?_)
  |refine Cv (D3 (by assumption)) (fun U=>?_)
  |refine Cv (D5 (by assumption)) (fun U=>?_)
  |refine Cv (D4 (by assumption)) (fun U=>?_)
  |refine Cv (by assumption) (fun U=>?_)
  |refine P6 (by decide) (by decide) (fun n s1 U=>?_)
  |refine ZA (by decide) (fun n s1 U=>?_)
  |refine Hm (by assumption) (fun n s1 U=>?_)
  |exact k _ _ (A1.two (l:=[a,b,_,_]) (A1.app h0 (A1.Hs (by assumption) (by assumption))) (by decide) (by decide) (Nat.le_of_ble_eq_true rfl))
  |refine A1.two ?_ (by decide) (by decide) (by first|exact Nat.le_of_ble_eq_true rfl|exact B4|(simp only [List.length_append,List.length_cons,List.length_nil];omega))
  |apply A1.Hs
  |apply A1.app)
theorem ZE (hL:KQ L) (hA:Dv A) (hr:Real s) (k:∀n s1,A1 [n] s s1→Q n s1):Rd.wp (Gj L A) s Q E3:=by
 have h1:=hL.exp
 simp only [Gj,Rd.wp_seq]
 refine Cv hr fun h0=>?_
 refine EL (P:=fun l s1=>A1 l s s1) (fun l s1 h0=>?_) h0
 ·have h2:=L2 (p:=Kn) hA
  simp only [NH,GZ,Rd.Ao,Rd.AV,Rd.wp_seq,Rd.wp_ret]
  repeat' (first
   |exact trivial
   |assumption
   |refine Br (fun e=>?_) (fun e=>?_)
   |refine Cv (Bq (by assumption) (by decide) (by decide)) (fun U=>?_)
   |refine Cv (Du (by assumption) (by decide) (by decide)) (fun U=>?_)
   |refine Cv (D3 (by assumption)) (fun U=>?_)
   |refine Cv (D5 (by assumption)) (fun U=>?_)
   |refine Cv (D4 (by assumption)) (fun U=>?_)
   |refine Cv (by assumption) (fun U=>?_)
   |refine P6 (by decide) (by decide) (fun n s1 U=>?_)
   |refine ZA (by decide) (fun n s1 U=>?_)
   |refine Hm (by assumption) (fun n s1 U=>?_)
   |exact k _ _ (A1.two (A1.snoc (A1.snoc h0 (by assumption)) (by assumption)) (by decide) (by decide) B4)
   |refine A1.two ?_ (by decide) (by decide) (by first|exact Nat.le_of_ble_eq_true rfl|exact B4|(simp only [List.length_append,List.length_cons,List.length_nil];omega))
   |apply A1.Hs
   |apply A1.app)
theorem iX {w:List UInt8} {Q:Unit→Ae→Prop} (k:∀s1,A1 [] s s1→Q () s1):Rd.wp (Uy w) s Q E3:=by
 simp only [Uy,Rd.Ao,Rd.AV,Rd.wp_ret]
 exact Br (fun e=>Br (fun _=>o9 (Md e) (k _)) fun _=>k _ (.nil _)) fun _=>k _ (.nil _)
theorem XU {l:List Nd} {w:List UInt8} {Q:List Nd→Ae→Prop} (hL:KQ L) (h0:A1 l s0 s) (k:∀a e s1,A1 (l++[a]++[e]) s0 s1→Q (l++[a]++[e]) s1):Rd.wp (Jt L l w) s Q E3:=by
 have h1:=hL.exp
 simp only [Jt,Rd.wp_seq,Rd.wp_ret]
 refine iX fun s1 hs=>?_
 have h0:=h0.pass hs
 repeat' (first
  |exact trivial
  |assumption
  |refine Br (fun e=>?_) (fun e=>?_)
  |refine Cv (Bq (by assumption) (by decide) (by decide)) (fun U=>?_)
  |refine Cv (Du (by assumption) (by decide) (by decide)) (fun U=>?_)
  |refine Cv (D3 (by assumption)) (fun U=>?_)
  |refine Cv (D5 (by assumption)) (fun U=>?_)
  |refine Cv (D4 (by assumption)) (fun U=>?_)
  |refine Cv (by assumption) (fun U=>?_)
  |refine P6 (by decide) (by decide) (fun n s1 U=>?_)
  |refine ZA (by decide) (fun n s1 U=>?_)
  |refine Hm (by assumption) (fun n s1 U=>?_)
  |refine k _ _ _ ?_
  |refine A1.two ?_ (by decide) (by decide) (by first|exact Nat.le_of_ble_eq_true rfl|exact B4|(simp only [List.length_append,List.length_cons,List.length_nil];omega))
  |apply A1.Hs
  |apply A1.app)
theorem ZB (U:KQ L) (hr:Real s) (k:∀n s1,A1 [n] s s1→Q n s1):Rd.wp (Gf L) s Q E3:=by
 have h1:=U.exp
 simp only [Gf,Rd.wp_seq,Rd.wp_ret]
 refine Cv hr fun h0=>?_
 refine Hm h1 fun c s1 hc=>?_
 exact XU U (h0.cons hc) fun a e s2 h2=>XU U h2 fun a e s3 h3=>k _ _ (h3.two (by decide) (by decide) B4)
theorem iU (hL:KQ L) (hr:Real s) (k:∀n s1,A1 [n] s s1→Q n s1):Rd.wp (MD L) s Q E3:=by
 have h1:=hL.exp
 have h2:=hL.alts
 simp only [MD,Rd.wp_seq,Rd.wp_ret]
 refine Cv hr fun h0=>?_
 repeat' (first
  |exact trivial
  |assumption
  |refine Br (fun e=>?_) (fun e=>?_)
  |refine Cv (Bq (by assumption) (by decide) (by decide)) (fun U=>?_)
  |refine Cv (Du (by assumption) (by decide) (by decide)) (fun U=>?_)
  |refine Cv (D3 (by assumption)) (fun U=>?_)
  |refine Cv (D5 (by assumption)) (fun U=>?_)
  |refine Cv (D4 (by assumption)) (fun U=>?_)
  |refine Cv (by assumption) (fun U=>?_)
  |refine P6 (by decide) (by decide) (fun n s1 U=>?_)
  |refine ZA (by decide) (fun n s1 U=>?_)
  |refine Hm (by assumption) (fun n s1 U=>?_)
  |refine k _ _ ?_
  |refine A1.two ?_ (by decide) (by decide) (by first|exact Nat.le_of_ble_eq_true rfl|exact B4|(simp only [List.length_append,List.length_cons,List.length_nil];omega))
  |apply A1.Hs
  |apply A1.app)
theorem da (hL:KQ L) (hr:Real s) (k:∀n s1,A1 [n] s s1→Q n s1):Rd.wp (ID L) s Q E3:=by
 have h1:=hL.stmts
 simp only [ID,Rd.wp_seq,Rd.wp_ret,Rd.AV,Rd.Ea]
 refine Cv hr fun h0=>?_
 repeat' (first
  |exact trivial
  |assumption
  |refine Br (fun e=>?_) (fun e=>?_)
  |refine Cv (Bq (by assumption) (by decide) (by decide)) (fun U=>?_)
  |refine Cv (Du (by assumption) (by decide) (by decide)) (fun U=>?_)
  |refine Cv (D3 (by assumption)) (fun U=>?_)
  |refine Cv (D5 (by assumption)) (fun U=>?_)
  |refine Cv (D4 (by assumption)) (fun U=>?_)
  |refine Cv (by assumption) (fun U=>?_)
  |refine P6 (by decide) (by decide) (fun n s1 U=>?_)
  |refine ZA (by decide) (fun n s1 U=>?_)
  |refine Hm (by assumption) (fun n s1 U=>?_)
  |refine k _ _ ?_
  |refine A1.two ?_ (by decide) (by decide) (by first|exact Nat.le_of_ble_eq_true rfl|exact B4|(simp only [List.length_append,List.length_cons,List.length_nil];omega))
  |apply A1.Hs
  |apply A1.app)
theorem my (U:KQ L) (hr:Real s) (k:∀n s1,A1 [n] s s1→Q n s1):Rd.wp (TS L) s Q E3:=by
 have h1:=U.decls
 simp only [TS,Rd.wp_seq]
 refine Cv hr fun h0=>?_
 exact Hm h1 fun b s1 hb=>Tj U (h0.cons hb) k
theorem cU (hA:Dv A) (k:∀n s1,A1 [n] s s1→Q n s1):Rd.wp (F6 A) s Q E3:=by
 simp only [F6,Rd.wp_seq,Rd.wp_ret]
 refine Hm hA fun n s1 hn=>?_
 refine EL (P:=fun l s1=>A1 l s s1∧1≤l.length) (fun l s1 U=>?_) ⟨hn,Nat.le_refl _⟩
 obtain ⟨U,hl⟩:=U
 simp only [Ri,Rd.Ao,Rd.AV,Rd.wp_seq,Rd.wp_ret]
 exact Br (fun _=>Hm hA fun n s1 hn=>⟨U.snoc hn,by rw [List.length_append];omega⟩) fun _=>k _ _ (U.one (by decide) (by decide) hl)
theorem Vt (hL:KQ L) (hA:Dv A):Dv (Df L A):=fun s=>by
 simp only [Df,Rd.Ao,Rd.AV]
 have U:=cU (s:=s) (Q:=fun n s'=>A1 [n] s s') hA fun _ _ h=>h
 refine Br (fun e=>Br (fun _=>ZE hL hA (Du e (by decide) (by decide)) fun _ _ h=>h) fun _=>U) fun _=>Br (fun e=>?_) fun _=>U
 have hr:=Du e (by decide) (by decide)
 exact Br (fun _=>my hL hr fun _ _ h=>h) fun _=>Br (fun _=>ZB hL hr fun _ _ h=>h) fun _=>Br (fun _=>iU hL hr fun _ _ h=>h) fun _=>Br (fun _=>da hL hr fun _ _ h=>h) fun _=>U
theorem XT {o:Nd} (U:A1 [o] s0 s) (k:∀n s1,A1 [n] s0 s1→Q n s1):Rd.wp (QL o) s Q E3:=by
 simp only [QL,Rd.wp_seq,Rd.wp_ret]
 refine EL (P:=fun l s1=>A1 l s0 s1∧1≤l.length) (fun l s1 U=>?_) ⟨U,Nat.le_refl _⟩
 obtain ⟨U,hl⟩:=U
 simp only [Ny,Rd.Ao,Rd.AV,Rd.wp_seq,Rd.wp_ret]
 exact Br (fun e=>Cv (Bq e (by decide) (by decide)) fun h=>⟨U.snoc h,by rw [List.length_append];omega⟩) fun _=>P6 (by decide) (by decide) fun n s1 h=>k _ _ ((U.snoc h).two (by decide) (by decide) (by rw [List.length_append,List.length_singleton];omega))
theorem ZH {o:Nd} (hL:KQ L) (h0:A1 [o] s0 s) (k:∀n s1,A1 [n] s0 s1→Q n s1):Rd.wp (Fi L o) s Q E3:=by
 have h1:=hL.ops
 have h2:=Rz
 simp only [Fi,Rd.Ao,Rd.AV,Rd.wp_seq,Rd.wp_ret]
 repeat' (first
  |exact trivial
  |assumption
  |refine Br (fun e=>?_) (fun e=>?_)
  |refine Cv (Bq (by assumption) (by decide) (by decide)) (fun U=>?_)
  |refine Cv (Du (by assumption) (by decide) (by decide)) (fun U=>?_)
  |refine Cv (D3 (by assumption)) (fun U=>?_)
  |refine Cv (D5 (by assumption)) (fun U=>?_)
  |refine Cv (D4 (by assumption)) (fun U=>?_)
  |refine Cv (by assumption) (fun U=>?_)
  |refine P6 (by decide) (by decide) (fun n s1 U=>?_)
  |refine ZA (by decide) (fun n s1 U=>?_)
  |refine Hm (by assumption) (fun n s1 U=>?_)
  |exact pI hL.Dz h0 k
  |refine k _ _ ?_
  |refine A1.two ?_ (by decide) (by decide) (by first|exact Nat.le_of_ble_eq_true rfl|exact B4|(simp only [List.length_append,List.length_cons,List.length_nil];omega))
  |apply A1.Hs
  |apply A1.app)
theorem ZG {o:Nd} (hL:KQ L) (U:A1 [o] s0 s) (k:∀n s1,A1 [n] s0 s1→Q n s1):Rd.wp (Hk L o) s Q E3:=by
 simp only [Hk,Rd.Ao,Rd.AV,Rd.wp_seq,Rd.wp_ret]
 have hc:=ZH (Q:=Q) hL U k
 refine Br (fun e=>Br (fun e2=>?_) fun _=>hc) fun _=>hc
 exact Cv (D5 e) fun h1=>Cv (Bq e2 (by decide) (by decide)) fun h2=>k _ _ ((U.cons (h1.cons h2)).two (by decide) (by decide) (Nat.le_of_ble_eq_true rfl))
theorem cY (hL:KQ L) (hr:Real s) (k:∀n s1,A1 [n] s s1→Q n s1):Rd.wp (GK L) s Q E3:=by
 simp only [GK,Rd.Ao,Rd.AV,Rd.wp_seq]
 exact Cv hr fun U=>Br (fun _=>XT U k) fun _=>Br (fun _=>XT U k) fun _=>ZG hL U k
theorem ZI (hL:KQ L) (hr:Real s) (k:∀n s1,A1 [n] s s1→Q n s1):Rd.wp (Gm L) s Q E3:=by
 simp only [Gm,Rd.Ao,Rd.AV,Rd.wp_seq,Rd.wp_ret]
 refine Cv hr fun h0=>?_
 repeat' (first
  |exact trivial
  |assumption
  |refine Br (fun e=>?_) (fun e=>?_)
  |refine Cv (Bq (by assumption) (by decide) (by decide)) (fun U=>?_)
  |refine Cv (Du (by assumption) (by decide) (by decide)) (fun U=>?_)
  |refine Cv (D3 (by assumption)) (fun U=>?_)
  |refine Cv (D5 (by assumption)) (fun U=>?_)
  |refine Cv (D4 (by assumption)) (fun U=>?_)
  |refine Cv (by assumption) (fun U=>?_)
  |refine P6 (by decide) (by decide) (fun n s1 U=>?_)
  |refine ZA (by decide) (fun n s1 U=>?_)
  |refine Hm (by assumption) (fun n s1 U=>?_)
  |exact pI hL.list h0 k
  |refine k _ _ ?_
  |refine A1.two ?_ (by decide) (by decide) (by first|exact Nat.le_of_ble_eq_true rfl|exact B4|(simp only [List.length_append,List.length_cons,List.length_nil];omega))
  |apply A1.Hs
  |apply A1.app)
theorem iT (hL:KQ L):Dv (Gt L):=fun s=>by
 have h1:=hL.atom
 simp only [Gt,Rd.Ao,Rd.AV,Rd.wp_seq,Rd.wp_ret]
 refine Br (fun e=>?_) fun _=>trivial
 have hr:=D3 e
 repeat' (first
  |exact trivial
  |assumption
  |refine Br (fun e=>?_) (fun e=>?_)
  |refine Cv (Bq (by assumption) (by decide) (by decide)) (fun U=>?_)
  |refine Cv (Du (by assumption) (by decide) (by decide)) (fun U=>?_)
  |refine Cv (D3 (by assumption)) (fun U=>?_)
  |refine Cv (D5 (by assumption)) (fun U=>?_)
  |refine Cv (D4 (by assumption)) (fun U=>?_)
  |refine Cv (by assumption) (fun U=>?_)
  |refine P6 (by decide) (by decide) (fun n s1 U=>?_)
  |refine ZA (by decide) (fun n s1 U=>?_)
  |refine Hm (by assumption) (fun n s1 U=>?_)
  |exact cY hL hr fun _ _ h=>h
  |exact ZI hL hr fun _ _ h=>h
  |exact A1.ep (by assumption) (by decide) (by decide)
  |refine A1.two ?_ (by decide) (by decide) (by first|exact Nat.le_of_ble_eq_true rfl|exact B4|(simp only [List.length_append,List.length_cons,List.length_nil];omega))
  |apply A1.Hs
  |apply A1.app)
theorem ZF {n:Nd} (hL:KQ L) (hr:Real s) (U:A1 [n] s0 s) (k:∀n s1,A1 [n] s0 s1→Q n s1):Rd.wp (FO L n) s Q E3:=by
 have h1:=hL.exp
 simp only [FO,Rd.wp_seq,Rd.wp_ret]
 refine Cv hr fun hb=>?_
 refine EL (P:=fun l s1=>A1 l s0 s1∧1≤l.length) (fun l s1 U=>?_) ⟨U.cons hb,Nat.le_of_ble_eq_true rfl⟩
 obtain ⟨U,hl⟩:=U
 have hend:∀{l:List Nd} {s:Ae},A1 l s0 s→1≤l.length→Rd.wp (Cd 15 [125]) s (fun c s'=>Q (AD 12 (l++[c])) s') E3:=fun U hl=>P6 (by decide) (by decide) fun n s1 h=>k _ _ ((U.snoc h).two (by decide) (by decide) (by rw [List.length_append,List.length_singleton];omega))
 simp only [NS,Ji,Rd.Ao,Rd.AV,Rd.wp_seq,Rd.wp_ret]
 have hf:Rd.wp (IL [1,3]) s1 (fun nm s'=>Rd.wp (Cd 10 [61]) s' (fun q s'=>Rd.wp L.exp s' (fun e s'=>if Ba s' 15 [44]=true then Rd.wp A7 s' (fun c s'=>A1 (l++[AD 13 [nm,q,e]]++[c]) s0 s'∧1≤(l++[AD 13 [nm,q,e]]++[c]).length) E3
  else Rd.wp (Cd 15 [125]) s' (fun c s'=>Q (AD 12 (l++[AD 13 [nm,q,e]]++[c])) s') E3) E3) E3) E3:=by
  refine ZA (by decide) fun nm s2 g1=>P6 (by decide) (by decide) fun q s3 g2=>Hm h1 fun e s4 g3=>?_
  have h2:=U.snoc ((g1.cons (g2.cons g3)).two (k:=13) (by decide) (by decide) (Nat.le_of_ble_eq_true rfl))
  exact Br (fun e=>Cv (Bq e (by decide) (by decide)) fun h=>⟨h2.snoc h,Nat.le_trans (by decide) B4⟩) fun _=>hend h2 (by rw [List.length_append,List.length_singleton];omega)
 exact Br (fun _=>Br (fun _=>hf) fun _=>hend U hl) fun _=>hf
theorem K7 (hL:KQ L):Dv (FU L):=fun s=>by
 simp only [FU,Rd.wp_seq]
 refine Hm (iT hL) fun n s1 hn=>?_
 refine EL (P:=fun n s1=>A1 [n] s s1) (fun n s1 U=>?_) hn
 simp only [XE,Rd.Ao,Rd.AV,Rd.wp_seq,Rd.wp_ret]
 exact Br (fun e=>ZF hL (Bq e (by decide) (by decide)) U fun _ _ h=>h) fun _=>U
end
section
variable {A B C D E:Rd Nd} {s s0 s1 s2 s':Ae} {Q:Nd→Ae→Prop} {L:Eo}
theorem aZ:∀{l:List Nd},2≤l.length→l.take (l.length - 1)++[l.getLastD MS]=l∧1≤(l.take (l.length - 1)).length:=fun {l} h=>by
 have U:l≠[]:=fun e=>by rw [e] at h;exact absurd h (by decide)
 refine ⟨?_,by rw [List.length_take];omega⟩
 have h1:=List.dropLast_concat_getLast U
 rw [←List.dropLast_eq_take]
 have:l.getLastD MS=l.getLast U:=by
  rw [List.getLastD_eq_getLast?,List.getLast?_eq_some_getLast U];rfl
 rw [this];exact h1
theorem A1.split:∀{l:List Nd} {s s':Ae},A1 l s s'→∀{a b:List Nd},l=a++b→∃s1,A1 a s s1∧A1 b s1 s':=by
 intro l s s' h
 induction h with
 |nil s=>intro a b e;obtain ⟨rfl,rfl⟩:=List.append_eq_nil_iff.1 e.symm;exact ⟨s,.nil s,.nil s⟩
 |app h1 h2 i1 i2=>
  intro a b e
  rcases List.append_eq_append_iff.1 e with ⟨x,U,e2⟩|⟨x,U,e2⟩
  ·obtain ⟨s1,k1,k2⟩:=i2 e2
   subst U
   exact ⟨s1,.app h1 k1,k2⟩
  ·obtain ⟨s1,k1,k2⟩:=i1 U
   subst e2
   exact ⟨s1,k1,.app k2 h2⟩
 |tok g1 g2 g3=>
  intro a b e
  match a with
  |[]=>rw [List.nil_append] at e;subst e;exact ⟨_,.nil _,.tok g1 g2 g3⟩
  |x::r=>
   rw [List.cons_append] at e
   injection e with U e2
   obtain ⟨rfl,rfl⟩:=List.append_eq_nil_iff.1 e2.symm
   subst U
   exact ⟨_,.tok g1 g2 g3,.nil _⟩
 |skip g1 g2=>intro a b e;obtain ⟨rfl,rfl⟩:=List.append_eq_nil_iff.1 e.symm;exact ⟨_,.nil _,.skip g1 g2⟩
 |close g1=>intro a b e;obtain ⟨rfl,rfl⟩:=List.append_eq_nil_iff.1 e.symm;exact ⟨_,.nil _,.close g1⟩
 |node g1 g2 g3 ih=>
  intro a b e
  match a with
  |[]=>rw [List.nil_append] at e;subst e;exact ⟨_,.nil _,.node g1 g2 g3⟩
  |x::r=>
   rw [List.cons_append] at e
   injection e with U e2
   obtain ⟨rfl,rfl⟩:=List.append_eq_nil_iff.1 e2.symm
   subst U
   exact ⟨_,.node g1 g2 g3,.nil _⟩
 |block g1 g2 g3 ih=>
  intro a b e
  match a with
  |[]=>rw [List.nil_append] at e;subst e;exact ⟨_,.nil _,.block g1 g2 g3⟩
  |x::r=>
   rw [List.cons_append] at e
   injection e with U e2
   obtain ⟨rfl,rfl⟩:=List.append_eq_nil_iff.1 e2.symm
   subst U
   exact ⟨_,.block g1 g2 g3,.nil _⟩
theorem cV {o:Nd} (hA:Dv A) (hB:Dv B) (hC:Dv C):∀s,Rd.wp (BU A B C o) s (fun n s'=>∀s0,A1 [o] s0 s→A1 [n] s0 s') E3:=fun s=>by
 simp only [BU,Rd.AV,Rd.wp_seq,Rd.wp_ret]
 refine cZ hA fun l b s1 h1 h2 hl=>?_
 dsimp only
 refine Br (fun e=>?_) fun _=>?_
 ·obtain ⟨h3,h4⟩:=h2 e
  obtain ⟨t1,t2⟩:=aZ h3
  obtain ⟨s2,k1,k2⟩:=hl.split t1.symm
  exact Cv (Bq h4 (by decide) (by decide)) fun g1 s0 U=>(U.cons ((k1.one (by decide) (by decide) t2).cons (k2.cons g1))).two (by decide) (by decide) (Nat.le_of_ble_eq_true rfl)
 ·refine Tm hB (hl.one (by decide) (by decide) h1) fun n s1 hn=>?_
  refine EL (P:=fun q s1=>(q.1=4∨q.1=5)∧2≤q.2.length∧∀s0,A1 [o] s0 s→A1 q.2 s0 s1) (fun q s1 h0=>?_) ⟨.inl rfl,Nat.le_refl _,fun s0 U=>U.cons hn⟩
  obtain ⟨hq,hl,h0⟩:=h0
  simp only [PW,Rd.Ao,Rd.AV,Rd.wp_seq,Rd.wp_ret]
  refine Br (fun e=>Cv (Bq e (by decide) (by decide)) fun g1=>Hm hC fun n s2 g2=>⟨.inr trivial,B4,fun s0 U=>((h0 s0 U).snoc g1).snoc g2⟩) fun _=>P6 (by decide) (by decide) fun c s2 hc s0 U=>?_
  exact ((h0 s0 U).snoc hc).two (by omega) (by omega) (by rw [List.length_append];omega)
theorem Tl {l:List Nd} {Q:List Nd→Ae→Prop} (hA:Dv A) (h0:A1 l s0 s) (k:∀U s1,l.length+2≤U.length→A1 U s0 s1→Q U s1):Rd.wp (Ek A l) s Q E3:=by
 simp only [Ek,Rd.wp_seq]
 refine P6 (by decide) (by decide) fun b s1 hb=>Hm hA fun t s2 ht=>?_
 refine EL (P:=fun U s1=>A1 U s0 s1∧l.length+2≤U.length) (fun U s1 h0=>?_) ⟨(h0.snoc hb).snoc ht,by simp only [List.length_append,List.length_singleton];omega⟩
 obtain ⟨h0,hl⟩:=h0
 simp only [Jw,Rd.Ao,Rd.AV,Rd.wp_seq,Rd.wp_ret]
 exact Br (fun e=>Cv (Bq e (by decide) (by decide)) fun g1=>Hm hA fun n s2 g2=>⟨(h0.snoc g1).snoc g2,by simp only [List.length_append,List.length_singleton];omega⟩) fun _=>k _ _ hl h0
theorem iW {o:Nd} (hA:Dv A) (hB:Dv B):∀s,Rd.wp (Lk A B o) s (fun n s'=>∀s0,A1 [o] s0 s→A1 [n] s0 s') E3:=fun s=>by
 simp only [Lk,Rd.Ao,Rd.AV,Rd.wp_seq,Rd.wp_ret]
 refine Hm hA fun e s1 he=>Br (fun _=>?_) fun _=>?_
 ·have:Rd.wp (Ek B [o,e]) s1 (fun l s2=>Rd.wp (Cd 15 [93]) s2 (fun c s'=>∀s0,A1 [o] s0 s→A1 [AD 8 (l++[c])] s0 s') E3) E3:=by
   refine Rd.UZ (fun l s2 hr=>?_) (fun _ _ _=>trivial)
   refine P6 (by decide) (by decide) fun c s3 hc s0 ho=>?_
   have h1:Rd.wp (Ek B [o,e]) s1 (fun l s2=>A1 l s0 s2∧2≤l.length) E3:=Tl hB (ho.cons he) fun l' s1 hl h=>⟨h,by simp only [List.length_cons,List.length_nil] at hl;omega⟩
   unfold Rd.wp at h1
   rw [hr] at h1
   exact (h1.1.snoc hc).two (by decide) (by decide) (by rw [List.length_append];omega)
  exact this
 ·refine EL (P:=fun l s1=>2≤l.length∧∀s0,A1 [o] s0 s→A1 l s0 s1) (fun l s1 h0=>?_) ⟨Nat.le_refl _,fun s0 ho=>ho.cons he⟩
  obtain ⟨hl,h0⟩:=h0
  have U:∀{k:Int} {l:List Nd} {s1:Ae},k≠1→k≠30→2≤l.length→(∀s0,A1 [o] s0 s→A1 l s0 s1)→Rd.wp (Cd 15 [93]) s1 (fun c s'=>∀s0,A1 [o] s0 s→A1 [AD k (l++[c])] s0 s') E3:=fun hk h30 hl h0=>
   P6 (by decide) (by decide) fun c s3 hc s0 ho=>((h0 s0 ho).snoc hc).two hk h30 (by rw [List.length_append];omega)
  simp only [Yn,MQ,Rd.Ao,Rd.AV,Rd.wp_seq,Rd.wp_ret]
  have hc:if Ba s1 15 [44]=true then Rd.wp A7 s1 (fun c s'=>Rd.wp A s' (fun e s'=>2≤(l++[c]++[e]).length∧∀s0,A1 [o] s0 s→A1 (l++[c]++[e]) s0 s') E3) E3
   else Rd.wp (Cd 15 [93]) s1 (fun c s'=>∀s0,A1 [o] s0 s→A1 [AD 6 (l++[c])] s0 s') E3:=
   Br (fun e=>Cv (Bq e (by decide) (by decide)) fun g1=>Hm hA fun n s2 g2=>⟨B4,fun s0 ho=>((h0 s0 ho).snoc g1).snoc g2⟩) fun _=>U (by decide) (by decide) hl h0
  refine Br (fun _=>Br (fun e=>Cv (Bq e (by decide) (by decide)) fun g1=>Br (fun _=>?_) fun _=>Hm hA fun n s2 g2=>?_) fun _=>hc) fun _=>hc
  ·exact U (by decide) (by decide) (by rw [List.length_append];omega) fun s0 ho=>(h0 s0 ho).snoc g1
  ·exact U (by decide) (by decide) B4 fun s0 ho=>((h0 s0 ho).snoc g1).snoc g2
theorem XR {n:Nd} (hA:Dv A) (U:A1 [n] s0 s) (k:∀n s1,A1 [n] s0 s1→Q n s1):Rd.wp (MC A n) s Q E3:=by
 simp only [MC,Rd.Ao,Rd.AV,Rd.wp_seq,Rd.wp_ret,Rd.Ea]
 exact Br (fun e=>Br (fun _=>Cv (Bq e (by decide) (by decide)) fun g1=>Hm hA fun m s2 g2=>k _ _ ((U.cons (g1.cons g2)).two (by decide) (by decide) (Nat.le_of_ble_eq_true rfl))) fun _=>trivial) fun _=>k _ _ U
theorem iY (hL:KQ L) (U:Dv A):Dv (M5 L A):=fun s=>by
 simp only [M5,Rd.Ao,Rd.AV,Rd.wp_seq,Rd.wp_ret]
 exact Br (fun e=>Cv (Bq e (by decide) (by decide)) fun g1=>Hm hL.decls fun b s2 g2=>Br (fun _=>Tj hL (g1.cons g2) fun n s3 g3=>XR U g3 fun _ _ h=>h) fun _=>(g1.cons g2).two (by decide) (by decide) (Nat.le_of_ble_eq_true rfl))
  fun _=>Hm U fun n s3 g3=>XR U g3 fun _ _ h=>h
theorem XV {m:List UInt8} {l:List Nd} (hL:KQ L) (hA:Dv A) (hB:Dv B) (U:A1 l s0 s) (hl:l=[]∨2≤M3 l) (k:∀n s1,A1 [n] s0 s1→Q n s1):Rd.wp (Un L A B m l) s Q E3:=by
 simp only [Un,Rd.wp_seq,Rd.Ao,Rd.AV,Rd.wp_ret]
 refine EL (P:=fun l s1=>A1 l s0 s1∧(l=[]∨2≤M3 l)) (fun l s1 U=>?_) ⟨U,hl⟩
 obtain ⟨U,hl⟩:=U
 have hs:Rd.wp (Ek B []) s1 (fun g s'=>Rd.wp (Cd 10 m) s' (fun q s'=>Rd.wp A s' (fun e s'=>A1 (l++[AD 30 (g++[q]++[e])]) s0 s'∧(l++[AD 30 (g++[q]++[e])]=[]∨2≤M3 (l++[AD 30 (g++[q]++[e])]))) E3) E3) E3:=by
  refine Tl hB (.nil s1) fun g s2 hg h=>P6 (by decide) (by decide) fun q s3 g1=>Hm hA fun e s4 g2=>⟨U.snoc (A1.gd ((h.snoc g1).snoc g2) (by simp only [List.length_append,List.length_singleton,List.length_nil] at *;omega)),.inr ?_⟩
  rw [IC]
  have:M3 [AD 30 (g++[q]++[e])]=2:=rfl
  omega
 have he:∀{l:List Nd} {s1:Ae},A1 l s0 s1→2≤M3 l→if Ba s1 9 gJ=true then Rd.wp A7 s1 (fun w s'=>Rd.wp L.decls s' (fun b s'=>Q (AD 29 (l++[AD 31 [w,b]])) s') E3) E3 else Q (AD 29 l) s1:=fun {l s1} U hl=>
  Br (fun e=>Cv (Bq e (by decide) (by decide)) fun g1=>Hm hL.decls fun b s2 g2=>k _ _ (.node (U.snoc ((g1.cons g2).two (by decide) (by decide) (Nat.le_of_ble_eq_true rfl))) (by decide) (by rw [IC];have:gV 29=1:=rfl;omega)))
   fun _=>k _ _ (.node U (by decide) (by have:gV 29=1:=rfl;omega))
 simp only [O3,Ig,Rd.Ao,Rd.AV,Rd.wp_seq,Rd.wp_ret]
 refine Br (fun _=>hs) fun hz=>?_
 have hl:2≤M3 l:=by
  rcases hl with rfl|hl
  ·exact absurd rfl hz
  ·exact hl
 exact Br (fun _=>Br (fun _=>hs) fun _=>he U hl) fun _=>he U hl
theorem cX {m:List UInt8} (hL:KQ L) (hA:Dv A) (hB:Dv B):Dv (Ss L A B m):=fun s=>by
 simp only [Ss,Rd.Ao,Rd.AV,Rd.wp_seq]
 refine Br (fun e=>?_) fun _=>Br (fun _=>XV hL hA hB (.nil s) (.inl rfl) fun _ _ h=>h) fun _=>trivial
 by_cases U:Real s
 ·exact Cv U fun g1=>Hm hA fun e s2 g2=>XV hL hA hB (g1.cons g2) (.inr (Nat.le_trans (Nat.le_of_ble_eq_true rfl) NY)) fun _ _ h=>h
 ·exact absurd (Bq e (by decide) (by decide)) U
theorem mv (hL:KQ L) (U:Dv A) (hB:Dv B) (hC:Dv C):Dv (SV L A B C):=fun s=>by
 simp only [SV,Rd.AV,Rd.wp_seq,Rd.wp_ret,Rd.Ea]
 exact Hm U fun n s1 g1=>Br (fun _=>Hm (cX hL hB hC) fun r s2 g2=>(g1.cons g2).two (by decide) (by decide) (Nat.le_of_ble_eq_true rfl)) fun _=>trivial
theorem OD {l:List Nd} (U:A1 l s0 s) (hl:1≤l.length) (k:∀n s1,A1 [n] s0 s1→Q n s1):Rd.wp (JR l) s Q E3:=by
 have ho:=L2 (p:=KH) Rz
 simp only [JR,Rd.wp_seq]
 refine Hm ho fun o s1 g1=>?_
 refine EL (P:=fun l s1=>A1 l s0 s1∧2≤l.length) (fun l s1 U=>?_) ⟨U.snoc g1,by rw [List.length_append,List.length_singleton];omega⟩
 obtain ⟨U,hl⟩:=U
 simp only [ND,Rd.Ao,Rd.AV,Rd.wp_seq,Rd.wp_ret]
 exact Br (fun e=>Cv (Bq e (by decide) (by decide)) fun g1=>Hm ho fun o s2 g2=>⟨(U.snoc g1).snoc g2,B4⟩) fun _=>k _ _ (U.two (by decide) (by decide) hl)
theorem ZD (U:Real s) (k:∀n s1,A1 [n] s s1→Q n s1):Rd.wp Ie s Q E3:=by
 simp only [Ie,Rd.Ao,Rd.AV,Rd.wp_seq]
 refine Cv U fun g1=>Br (fun e=>?_) fun _=>OD g1 (Nat.le_of_ble_eq_true rfl) k
 simp only [Cz,Rd.Ao,Rd.AV,Rd.wp_seq,Rd.wp_ret,Rd.Mx]
 exact Cv (Du e (by decide) (by decide)) fun g2=>Br (fun _=>OD (g1.cons g2) (Nat.le_of_ble_eq_true rfl) k) fun _=>trivial
theorem c9 {n:Nd} (hA:Dv A) (hB:Dv B) (U:A1 [n] s0 s) (k:∀n s1,A1 [n] s0 s1→Q n s1):Rd.wp (Sx A B n) s Q E3:=by
 have ho:=L2 (p:=bB) hA
 simp only [Sx,Rd.AV,Rd.wp_seq,Rd.Ea]
 refine Br (fun _=>?_) fun _=>trivial
 refine EL (P:=fun l s1=>A1 l s0 s1) (fun l s1 U=>?_) U
 simp only [kK,Rd.Ao,Rd.AV,Rd.wp_seq,Rd.wp_ret]
 exact Br (fun e=>Cv (Bq e (by decide) (by decide)) fun g1=>Hm ho fun o s2 g2=>(U.snoc g1).snoc g2) fun _=>P6 (by decide) (by decide) fun c s2 g1=>Hm hB fun t s3 g2=>k _ _ (((U.snoc g1).snoc g2).two (by decide) (by decide) B4)
theorem iV (hL:KQ L) (U:Dv A) (hB:Dv B) (hC:Dv C) (hD:Dv D) (hE:Dv E):Dv (MG L A B C D E):=fun s=>by
 simp only [MG,Rd.Ao,Rd.AV,Rd.wp_seq,Rd.wp_ret,Rd.Ea]
 exact Br (fun e=>ZD (D4 e) fun _ _ h=>h) fun _=>Hm hB fun n s1 g1=>Br (fun _=>c9 U hE g1 fun _ _ h=>h) fun _=>Br (fun _=>c9 U hE g1 fun _ _ h=>h) fun _=>
  Br (fun _=>Hm (cX hL hC hD) fun r s2 g2=>(g1.cons g2).two (by decide) (by decide) (Nat.le_of_ble_eq_true rfl)) fun _=>trivial
theorem c8 {Q:Unit→Ae→Prop} (k:∀s1,A1 [] s s1→Q () s1):Rd.wp PD s Q E3:=by
 refine EL (P:=fun _ s1=>A1 [] s s1) (fun _ s1 U=>?_) (.nil s)
 simp only [PB,Rd.Ao,Rd.AV,Rd.wp_seq,Rd.wp_ret]
 exact Br (fun e=>o9 (Md e) fun h=>U.pass h) fun _=>k _ U
theorem Ti {f m:Bool} {Q:Bool→Ae→Prop} (k:∀b s1,A1 [] s s1→Q b s1):Rd.wp (Ia f m) s Q E3:=by
 simp only [Ia,Rd.Ao,Rd.AV,Rd.wp_seq,Rd.wp_ret]
 have hi:∀{f:Bool},(if f then Ba s 15 [125] else (Ad s).1.kind==20)=true→Ge (Ad s).1=true:=fun {f} e=>by
  unfold Ge
  cases f with
  |true=>
   rw [if_pos rfl] at e
   unfold Ba at e
   simp only [Bool.and_eq_true,beq_iff_eq] at e
   simp [e.1,e.2]
  |false=>
   rw [if_neg (by decide),beq_iff_eq] at e
   simp [e]
 refine Br (fun e=>o9 (hi e) fun h=>k _ _ h) fun _=>Br (fun _=>Br (fun _=>trivial) fun _=>?_) fun _=>k _ _ (.nil s)
 unfold Rd.wp Ky
 dsimp only
 by_cases e:(DH s).2=true
 ·rw [if_pos e];exact k _ _ (.close e)
 ·rw [if_neg e];trivial
theorem K8 {p:Tk→Bool} (hA:Dv A):Dv (Da p A):=fun s=>by
 simp only [Da,Rd.Ao,Rd.AV,Rd.wp_seq,Rd.wp_ret]
 have hb:∀{f:Bool} {s1:Ae},(Ad s).2.2=0→Ge (Ad s).1=true→(Ad s).2.1=s1→Rd.wp (Rd.loop (F7 p A f) []) s1 (fun l s'=>A1 [EK f l] s s') E3:=fun {f s1} e1 e2 e3=>by
  subst e3
  refine EL (P:=fun l s1=>A1 l (Ad s).2.1 s1) (fun l s1 U=>?_) (.nil _)
  simp only [F7,Rd.Ao,Rd.AV,Rd.wp_seq,Rd.wp_ret]
  refine c8 fun s2 g2=>Ti fun b s3 g3=>Br (fun _=>.block e1 e2 ((U.pass g2).pass g3)) fun _=>Hm hA fun n s4 g4=>Ti fun b s5 g5=>Br (fun _=>.block e1 e2 ((((U.pass g2).pass g3).snoc g4).pass g5)) fun _=>(((U.pass g2).pass g3).snoc g4).pass g5
 refine Br (fun e=>?_) fun _=>?_
 ·have hi:Ge (Ad s).1=true:=by rw [beq_iff_eq] at e;simp [Ge,e]
  exact o9 hi fun _=>hb (Ds (Lh hi).1) hi rfl
 ·unfold Cd
  rw [Rd.Ao,Rd.AV]
  refine Br (fun e=>?_) fun _=>trivial
  have hi:Ge (Ad s).1=true:=by
   unfold Ba at e
   simp only [Bool.and_eq_true,beq_iff_eq] at e
   simp [Ge,e.1,e.2]
  exact Cv (Bq e (by decide) (by decide)) fun _=>hb (Ds (Lh hi).1) hi rfl
theorem Je (d:Nat):Dv (Ee d):=Dv.of fun s n s' h=>by
 have U:C9 (Eg (C3 (DD (d - 1)))):=iQ (XO (XP _))
 refine U s n s' ?_
 unfold Ee Qg at h
 dsimp only at h
 split at h
 ·split at h<;>cases h
 ·cases h;assumption
theorem XS {o:Nd} {e:Er}:∀s,Rd.wp (Rd.fail e:Rd Nd) s (fun n s'=>∀s0,A1 [o] s0 s→A1 [n] s0 s') E3:=fun s=>trivial
theorem L3 (U:KQ L):Dv (GI L):=Vt U (K7 U)
theorem H9 (U:Dv A) (hL:KQ L):Dv (Hb A L):=mw (L3 hL) U
theorem Jf (hA:Dv A) (U:KQ L):Dv (JB A L):=iY U (H9 hA U)
theorem XQ (hA:Dv A) (U:KQ L):Dv (bR A L):=mv U (OG (L3 U)) (H9 hA U) (Jf hA U)
theorem OC (hA:Dv A) (U:KQ L):Dv (K3 A L):=iV U (K7 U) (OG (L3 U)) (H9 hA U) (Jf hA U) hA
theorem om (hA:Dv A) (U:KQ L):KQ (oV A L) where
 atom:=K7 U
 exp:=H9 hA U
 ops:=OG (L3 U)
 decls:=K8 (OC hA U)
 stmts:=K8 (Jf hA U)
 alts:=K8 (XQ hA U)
 Dz:=fun o=>cV (L3 U) hA (H9 hA U)
 list:=fun o=>iW (H9 hA U) (Jf hA U)
theorem OE:∀d,KQ (EP d)
 |0=>⟨fun _=>trivial,fun _=>trivial,fun _=>trivial,fun _=>trivial,fun _=>trivial,fun _=>trivial,fun o=>XS,fun o=>XS⟩
 |d+1=>om (Je _) (OE d)
end
theorem Dv.sz {A:Rd Nd} {s s':Ae} {n:Nd} (h:Dv A) (U:A.run s=.inr (n,s')) (hm:mu s≤100000000):n.size≤1000000000:=by have:=h.size U;omega
theorem ft {n:Nd} {s s':Ae} (h:Fv.run s=.inr (n,s')):∃x,n.kids[(Int.tdiv (n.kids.length:Int) 2).toNat]? =some x∧n.kids[n.kids.length / 2]? =some x:=by
 unfold Fv at h
 replace h:(if IE (Ad s).1=true then Rd.seq A7 fun t=>.ret (AD 18 [t]) else Rd.seq (Cd 15 [96]) fun o=>.seq (IL [1,2,3,4]) fun n=>.seq (Cd 15 [96]) fun c=>.ret (AD 18 [o,n,c]):Rd Nd).run s=.inr (n,s'):=h
 split at h
 ·obtain ⟨t,s1,_,h⟩:=BG h
  cases h
  exact ⟨t,(by show [t][(Int.tdiv (1:Int) 2).toNat]? =some t;rw [show (Int.tdiv (1:Int) 2).toNat=0 by decide];rfl),by simp [AD,Nd.kids]⟩
 ·obtain ⟨o,s1,_,h⟩:=BG h
  obtain ⟨x,s2,_,h⟩:=BG h
  obtain ⟨c,U,_,h⟩:=BG h
  cases h
  exact ⟨x,(by show [o,x,c][(Int.tdiv (3:Int) 2).toNat]? =some x;rw [show (Int.tdiv (3:Int) 2).toNat=1 by decide];rfl),by simp [AD,Nd.kids]⟩
section
variable {st0 st:St} {b d:Nat} {s:Ae} {rows:List (AO×List Nd)} {K:AM→St→Prop} {L:Eo}
attribute [local irreducible] Go.Aw.Ai
theorem iN {n:Nd} (h:K (.ret (.bool (Rr n))) st):PC 198 [enc n] st K:=by
 refine Aa Ac [] Tryz.func198 rfl (by decide) ?_
 repeat' ((conv=>whnf);first|(refine BQ ?_;intros)|(refine BR ?_ ?_<;>intro e h)|(refine BS ?_ ?_<;>intro _)|refine lj ?_)
 all_goals conv=>whnf
 all_goals (refine AB h ?_;clear h;simp_all [Rr])
theorem TD:Bh enc 196 (fun b=>[pv b d,.func 199 [] [],.func 200 [] []]) (Cz Fv KH):=
 JS NP fun hr _ k=>by obtain ⟨x,U,h2⟩:=ft hr;exact fz U h2 k
theorem jw:Bh enc 196 (fun b=>[pv b d,.func 197 [] [],.func 198 [] []]) (Cz A7 Rr):=
 JS VK fun _ _ k=>iN k
theorem jC {atom:Rd Nd} (ha:Bh enc 202 (fun b=>[pv b d]) atom) (U:Dv atom):Bh enc 196 (fun b=>[pv b d,.func 202 [] [],.func 201 [] []]) (Cz atom bB):=
 JS ha fun hr hm k=>Yh (Dv.sz U hr hm) k
theorem ZX:Bh enc 136 (fun b=>[pv b d]) Ie:=by
 refine ⟨fun {st0 b s st rows K} hc h=>?_⟩
 simp only [Ie,JR,Rd.Ao,Rd.AV,Rd.wp_seq,Rd.wp_ret] at h
 have hmu:=hc.mu
 refine Aa Ac [] Tryz.func136 rfl (by decide) ?_
 repeat' ((conv=>whnf);first|(refine BQ ?_;intros)|(refine BR ?_ ?_<;>intro e h)|(refine BS ?_ ?_<;>intro _)|refine Cx.KT (l:=[_]) (hc.push [_]) (Nat.le_of_ble_eq_true rfl) (fun own1 U hc=>?_)|(refine G5 ?_;intro U hc)|(refine Kv ?_ ?_<;>intro U hc e h)|(refine JH ?_;intro s1 U hz hm hc h)|refine HX (fun n s1 U hr hm hc h=>?_) (fun e s1 U hc h=>?_)|exact E2|refine IY ?_|(refine Kf ?_;intro own1 U hc)|refine Al (fun e1=>?_)|refine Bh.go jw hc h (fun n s1 U hr hm hc h=>?_) (fun e s1 U hc h=>?_)|refine Bh.go TD hc h (fun n s1 U hr hm hc h=>?_) (fun e s1 U hc h=>?_))
 all_goals refine CM (fun l own=>[(3,.slice 6 (l.map A3) own)]) (fun _ _=>[]) [1,2] [0,1] (fun l own=>(own,l)::rows) (fun l=>l.length) _ hc h (by simp only [List.length_append,List.length_cons,List.length_nil];omega) Yl ?_
 all_goals intro l s1 U own1 hc h hl hm1
 all_goals simp only [ND,Rd.Ao,Rd.AV,Rd.wp_seq,Rd.wp_ret,Rd.BB] at h
 all_goals (repeat' ((conv=>whnf);first|(refine BQ ?_;intros)|(refine BR ?_ ?_<;>intro e h)|(refine BS ?_ ?_<;>intro _)|(refine G5 ?_;intro U hc)|(refine Kv ?_ ?_<;>intro U hc e h)|(refine JH ?_;intro s1 U hz hm hc h)|refine HX (fun n s1 U hr hm hc h=>?_) (fun e s1 U hc h=>?_)|exact E2|refine IY ?_|(refine Kf ?_;intro own1 U hc)|refine Al (fun e1=>?_)|refine Bh.go TD hc h (fun n s1 U hr hm hc h=>?_) (fun e s1 U hc h=>?_)))
theorem nN {atom full:Rd Nd} {n:Nd} (hn:n.size≤1000000000) (ha:Bh enc 202 (fun b=>[pv b d]) atom) (hD:Dv atom) (hf:Bh enc 203 (fun b=>[pv b d]) full):Bh enc 138 (fun b=>[pv b d,enc n]) (Sx atom full n):=by
 refine ⟨fun {st0 b s st rows K} hc h=>?_⟩
 simp only [Sx,Rd.AV,Rd.wp_seq,Rd.wp_ret,Rd.Ea] at h
 have hmu:=hc.mu
 refine Aa Ac [] Tryz.func138 rfl (by decide) ?_
 repeat' ((conv=>whnf);first|exact FR|(refine BQ ?_;intros)|(refine FT ?_ ?_ ?_;rotate_left)|(refine BR ?_ ?_<;>intro e h)|(refine BS ?_ ?_<;>intro _)|(refine G5 ?_;intro U hc)|(refine Kv ?_ ?_<;>intro U hc e h)|(refine JH ?_;intro s1 U hz hm hc h)|refine HX (fun n s1 U hr hm hc h=>?_) (fun e s1 U hc h=>?_)|exact E2|refine IY ?_|(refine Kf ?_;intro own1 U hc)|refine Al (fun e1=>?_)|refine Yh hn ?_|refine R7 ?_|refine R6 ?_|refine Ar [(0,true),(1,true),(2,false),(3,false)] [] (by decide +kernel) ?_|with_reducible refine WF ?_)
 all_goals refine CM (fun l own=>[(5,.slice 6 (l.map A3) own)]) (fun _ _=>[]) [2,3,4] [0,1,2] (fun l own=>(own,l)::rows) (fun l=>l.length) .full (hc.push _) h (by show 1+_≤_;omega) Yl ?_
 all_goals intro l s1 U own1 hc h hl hm1
 all_goals simp only [kK,Rd.Ao,Rd.AV,Rd.wp_seq,Rd.wp_ret,Rd.BB] at h
 all_goals (repeat' ((conv=>whnf);first|exact FR|(refine BQ ?_;intros)|(refine FT ?_ ?_ ?_;rotate_left)|(refine BR ?_ ?_<;>intro e h)|(refine BS ?_ ?_<;>intro _)|(refine G5 ?_;intro U hc)|(refine Kv ?_ ?_<;>intro U hc e h)|(refine JH ?_;intro s1 U hz hm hc h)|refine HX (fun n s1 U hr hm hc h=>?_) (fun e s1 U hc h=>?_)|exact E2|refine IY ?_|(refine Kf ?_;intro own1 U hc)|refine Al (fun e1=>?_)|refine Bh.go (jC ha hD) hc h (fun n s1 U hr hm hc h=>?_) (fun e s1 U hc h=>?_)|refine Bh.go hf hc h (fun n s1 U hr hm hc h=>?_) (fun e s1 U hc h=>?_)|with_reducible refine WF ?_))
theorem iL {atom ops exp stmt full:Rd Nd} (hL:Ku d L) (ha:Bh enc 202 (fun b=>[pv b d]) atom) (hD:Dv atom) (ho:Bh enc 130 (fun b=>[pv b d]) ops) (hE:Dv ops) (he:Bh enc 80 (fun b=>[pv b d]) exp)
 (hs:Bh enc 60 (fun b=>[pv b d]) stmt) (hf:Bh enc 203 (fun b=>[pv b d]) full):Bh enc 72 (fun b=>[pv b d]) (MG L atom ops exp stmt full):=by
 refine ⟨fun {st0 b s st rows K} hc h=>?_⟩
 simp only [MG,Rd.Ao,Rd.AV,Rd.wp_seq,Rd.wp_ret,Rd.Ea] at h
 have hmu:=hc.mu
 refine Aa Ac [] Tryz.func72 rfl (by decide) ?_
 repeat' ((conv=>whnf);first|exact FR|(refine BQ ?_;intros)|(refine FT ?_ ?_ ?_;rotate_left)|(refine BR ?_ ?_<;>intro e h)|(refine BS ?_ ?_<;>intro _)|(refine G5 ?_;intro U hc)|(refine Kv ?_ ?_<;>intro U hc e h)|exact E2|refine IY ?_|refine Al (fun e1=>?_)|refine X8 ?_|refine Bh.go ZX hc h (fun n s1 U hr hm hc h=>?_) (fun e s1 U hc h=>?_)|refine Bh.go ho hc h (fun n s1 U hr hm hc h=>?_) (fun e s1 U hc h=>?_)|refine Bh.go (nN (Dv.sz hE hr hmu) ha hD hf) hc h (fun n s1 U hr hm hc h=>?_) (fun e s1 U hc h=>?_)|refine oK ?_|refine R7 ?_|refine R6 ?_|refine Bh.go (fJ hL he hs) hc h (fun n s1 U hr hm hc h=>?_) (fun e s1 U hc h=>?_)|refine Ar [(0,true),(1,true),(2,false),(3,true),(4,false),(5,false)] [1] (by decide +kernel) ?_|with_reducible refine WF ?_)
end
theorem Dv.lE {A:Rd Nd} (h:Dv A):Rd.A6 A:=fun s n s' e=>by
 have U:=h.size e
 have h2:=size_pos n
 omega
section
variable {st0 st:St} {b d:Nat} {s:Ae} {rows:List (AO×List Nd)} {K:AM→St→Prop} {L:Eo}
attribute [local irreducible] Go.Aw.Ai
theorem XL (hb:s.CG.length≤500000000) (h:K (.ret (.Bo [CN (DH s).1,.bool (DH s).2])) st):PC 237 [CN s] st K:=by
 refine Aa Ac [] Tryz.func237 rfl (by decide) ?_
 have h0:¬F3 s=0→s.CG≠[]:=fun e e2=>e (by unfold F3;rw [e2];rfl)
 unfold DH at h
 by_cases U:Hh s=true
 ·by_cases hw:s.wait=1
  ·rw [if_neg (by omega)] at h
   repeat' ((conv=>whnf);first|(refine BQ ?_;intros)|(refine BR ?_ ?_<;>intro e h)|(refine BS ?_ ?_<;>intro _)|refine T1 ?_|refine M8 ?_)
   all_goals first|exact B8 rfl h|(rw [U] at *;simp at *)
  ·by_cases ht:F3 s=0
   ·rw [if_neg (by omega)] at h
    repeat' ((conv=>whnf);first|(refine BQ ?_;intros)|(refine BR ?_ ?_<;>intro e h)|(refine BS ?_ ?_<;>intro _)|refine T1 ?_|refine M8 ?_)
    all_goals first|exact B8 rfl h|(rw [U] at *;simp at *)
   ·rw [if_pos ⟨U,hw,ht⟩] at h
    repeat' ((conv=>whnf);first|(refine BQ ?_;intros)|(refine BR ?_ ?_<;>intro e h)|(refine BS ?_ ?_<;>intro _)|refine T1 ?_|refine M8 ?_|refine K1 (h0 ht) hb ?_)
    all_goals first|exact B8 rfl h|(rw [U] at *;simp at *)
 ·rw [if_neg (by simp [U])] at h
  repeat' ((conv=>whnf);first|(refine BQ ?_;intros)|(refine BR ?_ ?_<;>intro e h)|(refine BS ?_ ?_<;>intro _)|refine T1 ?_|refine M8 ?_)
  all_goals first|exact B8 rfl h|exact absurd (by assumption) U
def bv (x:Bool):V:=.bool x
theorem dx {f m:Bool}:Bh bv 169 (fun b=>[.ptr b 0,.bool f,.bool m]) (Ia f m):=by
 refine ⟨fun {st0 b s st rows K} hc h=>?_⟩
 simp only [Ia,Rd.Ao,Rd.AV,Rd.wp_seq,Rd.wp_ret] at h
 have hc1:=hc.look
 refine Aa Ac [] Tryz.func169 rfl (by decide) ?_
 have hcl:Rd.wp Ky s (fun _ s'=>∀st',Cx st0 b s' st' rows→K (.ret (.bool true)) st') (fun e s'=>∀st',Cy st0 b s' st' rows→K (.Cg (fault e.1)) st')→if (DH s).2=true then mu (DH s).1≤mu s∧∀st',Cx st0 b (DH s).1 st' rows→K (.ret (.bool true)) st'
  else Rd.wp (P2:Rd Unit) s (fun _ s'=>∀st',Cx st0 b s' st' rows→K (.ret (.bool true)) st') (fun e s'=>∀st',Cy st0 b s' st' rows→K (.Cg (fault e.1)) st'):=fun h=>by
  unfold Ky Rd.wp at h
  dsimp only at h
  split
  ·rename_i e;rw [if_pos e] at h;exact ⟨L1 e,h⟩
  ·rename_i e;rw [if_neg e] at h;exact h
 have hmu:=hc.mu
 cases f
 ·simp only [Bool.false_eq_true,if_false] at h
  cases m
  ·simp only [Bool.false_eq_true,if_false] at h
   repeat' ((conv=>whnf);first|(refine BQ ?_;intros)|(refine BR ?_ ?_<;>intro e h)|(refine BS ?_ ?_<;>intro _)|refine Ga hc.has hc.hb ?_|refine J4 hc1 h (by omega) (fun s1 U hz hm hc h=>?_)|exact Eu hc1 h rfl|(refine G5 ?_;intro U hc)|(refine bQ ?_;intro e s1 U hc h)|exact E2|refine Al (fun e1=>?_))
  ·simp only [if_true] at h
   repeat' ((conv=>whnf);first|refine S6 (hcl h) (fun e h=>?_) (fun e h=>?_)|(refine BQ ?_;intros)|(refine BR ?_ ?_<;>intro e h)|(refine BS ?_ ?_<;>intro _)|refine Ga hc.has hc.hb ?_|refine J4 hc1 h (by omega) (fun s1 U hz hm hc h=>?_)|refine At (St.Ah ..) ?_|refine XL hc.hb ?_|refine oA hc1 (by omega) (fun U hc=>?_)|exact Eu hc h.2 rfl|refine S2 hc1 h (fun e s1 U hc h=>?_)|(refine G5 ?_;intro U hc)|(refine bQ ?_;intro e s1 U hc h)|exact E2|refine Al (fun e1=>?_))
 ·simp only [if_true] at h
  by_cases hi:Ba s 15 [125]=true
  ·rw [if_pos hi] at h
   obtain ⟨h1,h2⟩:(Ad s).1.kind=15∧(Ad s).1.text=[125]:=by
    unfold Ba at hi
    simp only [Bool.and_eq_true,beq_iff_eq] at hi
    exact hi
   repeat' ((conv=>whnf);first|(refine BQ ?_;intros)|(refine BR ?_ ?_<;>intro e h)|(refine BS ?_ ?_<;>intro _)|refine Ga hc.has hc.hb ?_|refine J4 hc1 h (by omega) (fun s1 U hz hm hc h=>?_)|(refine G5 ?_;intro U hc)|(refine bQ ?_;intro e s1 U hc h)|exact E2|refine Al (fun e1=>?_))
  ·rw [if_neg hi] at h
   have hx:(Ad s).1.kind=15→¬(Ad s).1.text=[125]:=fun h1 h2=>hi (by unfold Ba;rw [h1,h2];rfl)
   cases m
   ·simp only [Bool.false_eq_true,if_false] at h
    repeat' ((conv=>whnf);first|refine cn (beq_eq_false_iff_ne.2 (hx (by assumption))) ?_|(refine BQ ?_;intros)|(refine BR ?_ ?_<;>intro e h)|(refine BS ?_ ?_<;>intro _)|refine Ga hc.has hc.hb ?_|exact Eu hc1 h rfl|(refine G5 ?_;intro U hc)|(refine bQ ?_;intro e s1 U hc h)|exact E2|refine Al (fun e1=>?_))
   ·simp only [if_true] at h
    repeat' ((conv=>whnf);first|refine cn (beq_eq_false_iff_ne.2 (hx (by assumption))) ?_|(refine BQ ?_;intros)|(refine BR ?_ ?_<;>intro e h)|(refine BS ?_ ?_<;>intro _)|refine Ga hc.has hc.hb ?_|refine At (St.Ah ..) ?_|refine XL hc.hb ?_|refine S2 hc1 h (fun e s1 U hc h=>?_)|(refine G5 ?_;intro U hc)|(refine bQ ?_;intro e s1 U hc h)|exact E2|refine Al (fun e1=>?_))
theorem NC {f m U:Bool} (e:U=m):Bh bv 169 (fun b=>[.ptr b 0,.bool f,.bool m]) (Ia f U):=by rw [e];exact dx
theorem lL {b:Bool} (h:b=true):(!b)=false:=by rw [h];rfl
theorem lK {b:Bool} (h:b=false):(!b)=true:=by rw [h];rfl
theorem VH {l:List Nd} {own:AO}:AM.ret (enc (EK false l))=(AM.ret (.agg [.int .i64 2,.int .i64 0,.str [],.int .i64 0,.int .i64 0,.slice 6 (l.map A3) own])).wk:=by unfold EK;rw [dt];rfl
theorem VI {l:List Nd} {own:AO}:AM.ret (enc (EK true l))=(AM.ret (.agg [.int .i64 2,.int .i64 1,.str [],.int .i64 0,.int .i64 0,.slice 6 (l.map A3) own])).wk:=by unfold EK;rw [dt];rfl
theorem Om {g i:FuncId} {starts:Tk→Bool} {item:Rd Nd} (hg:∀{t:Tk} {st:St} {K:AM→St→Prop},K (.ret (.bool (starts t))) st→PC g [FV t] st K) (hi:Bh enc i (fun b=>[pv b d]) item) (hF:Dv item):
 Bh enc 108 (fun b=>[.ptr b 0,.func g [] [],.func i [pv b d] []]) (Da starts item):=by
 refine ⟨fun {st0 b s st rows K} hc h=>?_⟩
 simp only [Da,Rd.Ao,Rd.AV,Rd.wp_seq,Rd.wp_ret] at h
 have hmu:=hc.mu
 refine Aa Ac [] Tryz.func108 rfl (by decide) ?_
 repeat' ((conv=>whnf);first|exact FR|(refine BQ ?_;intros)|(refine FT ?_ ?_ ?_;rotate_left)|(refine BR ?_ ?_<;>intro e h)|(refine BS ?_ ?_<;>intro _)|(refine G5 ?_;intro U hc)|refine HX (fun n s1 U hr hm hc h=>?_) (fun e s1 U hc h=>?_)|exact E2|(refine Kf ?_;intro own1 U hc)|refine Al (fun e1=>?_)|refine J4 hc h (by omega) (fun s1 U hz hm hc h=>?_)|refine Ar [(0,true),(1,true),(2,true),(3,true),(4,true),(5,true),(6,false),(7,false),(8,true),(9,false)] [] (by decide +kernel) ?_|refine Ar [(0,true),(1,true),(2,true),(3,false),(4,true),(5,false),(6,true),(7,false)] [1] (by decide +kernel) ?_|refine Ar [(0,true),(1,true),(2,true),(3,true),(4,true),(5,false),(6,false),(7,true),(8,false)] [] (by decide +kernel) ?_|with_reducible refine WF ?_)
 ·refine CM (fun l own=>[]) (fun l own=>[(1,[.int .i64 2,.int .i64 0,.str [],.int .i64 0,.int .i64 0,.slice 6 (l.map A3) own])]) [0,1,2,6,7] [0] (fun l own=>(own,l)::rows) (fun l=>l.length) .full (hc.push []) h (by show 0+_≤_;omega) Yl ?_
  intro l s1 U own1 hc h hl hm1
  simp only [F7,Rd.Ao,Rd.AV,Rd.wp_seq,Rd.wp_ret,Rd.BB] at h
  repeat' ((conv=>whnf);first|exact FR|(refine BQ ?_;intros)|(refine FT ?_ ?_ ?_;rotate_left)|(refine BR ?_ ?_<;>intro e h)|(refine BS ?_ ?_<;>intro _)|with_reducible refine WF ?_)
  unfold PD at h
  refine CM (fun _ _=>[]) (fun _ _=>[]) [0,1,2,6,7] [0,1] (fun _ _=>(own1,l)::rows) (fun _=>l.length) .full hc h hl Yl ?_
  intro u s2 st2 own2 hc h hl hm2
  simp only [PB,Rd.Ao,Rd.AV,Rd.wp_seq,Rd.wp_ret,Rd.BB] at h
  repeat' ((conv=>whnf);first|exact FR|(refine BQ ?_;intros)|(refine FT ?_ ?_ ?_;rotate_left)|(refine BR ?_ ?_<;>intro e h)|(refine BS ?_ ?_<;>intro _)|(refine G5 ?_;intro U hc)|refine HX (fun n s1 U hr hm hc h=>?_) (fun e s1 U hc h=>?_)|exact E2|(refine Kf ?_;intro own1 U hc)|refine Al (fun e1=>?_)|refine Sw ?_|refine hg ?_|refine J4 hc h (NX (by assumption)) (fun s1 U hz hm hc h=>?_)|refine Bh.go (NC (lL (by assumption))) hc h (fun v s1 U hr hm hc h=>?_) (fun e s1 U hc h=>?_)|refine Bh.go (NC (lK (by assumption))) hc h (fun v s1 U hr hm hc h=>?_) (fun e s1 U hc h=>?_)|refine Bh.mM hi hF.lE hc h (fun n s1 U hr hm hc h=>?_) (fun e s1 U hc h=>?_)|exact Eu hc.drop h VH|refine Ar [(0,true),(1,true),(2,true),(3,true),(4,true),(5,true),(6,false),(7,false),(8,true),(9,false)] [] (by decide +kernel) ?_|refine Ar [(0,true),(1,true),(2,true),(3,false),(4,true),(5,false),(6,true),(7,false)] [1] (by decide +kernel) ?_|refine Ar [(0,true),(1,true),(2,true),(3,true),(4,true),(5,false),(6,false),(7,true),(8,false)] [] (by decide +kernel) ?_|with_reducible refine WF ?_)
  all_goals conv=>whnf
  all_goals exact ⟨⟨(),_,_,.full⟩,⟨hc,Rd.Ho h (by omega),(by dsimp only;omega),(by dsimp only;omega)⟩,(by dsimp only;omega),Yl,St.le_refl _⟩
 ·refine CM (fun l own=>[]) (fun l own=>[(1,[.int .i64 2,.int .i64 1,.str [],.int .i64 0,.int .i64 0,.slice 6 (l.map A3) own])]) [0,1,2,6,7] [0] (fun l own=>(own,l)::rows) (fun l=>l.length) .full (hc.push []) h (by show 0+_≤_;omega) Yl ?_
  intro l s1 U own1 hc h hl hm1
  simp only [F7,Rd.Ao,Rd.AV,Rd.wp_seq,Rd.wp_ret,Rd.BB] at h
  repeat' ((conv=>whnf);first|exact FR|(refine BQ ?_;intros)|(refine FT ?_ ?_ ?_;rotate_left)|(refine BR ?_ ?_<;>intro e h)|(refine BS ?_ ?_<;>intro _)|with_reducible refine WF ?_)
  unfold PD at h
  refine CM (fun _ _=>[]) (fun _ _=>[]) [0,1,2,6,7] [0,1] (fun _ _=>(own1,l)::rows) (fun _=>l.length) .full hc h hl Yl ?_
  intro u s2 st2 own2 hc h hl hm2
  simp only [PB,Rd.Ao,Rd.AV,Rd.wp_seq,Rd.wp_ret,Rd.BB] at h
  repeat' ((conv=>whnf);first|exact FR|(refine BQ ?_;intros)|(refine FT ?_ ?_ ?_;rotate_left)|(refine BR ?_ ?_<;>intro e h)|(refine BS ?_ ?_<;>intro _)|(refine G5 ?_;intro U hc)|refine HX (fun n s1 U hr hm hc h=>?_) (fun e s1 U hc h=>?_)|exact E2|(refine Kf ?_;intro own1 U hc)|refine Al (fun e1=>?_)|refine Sw ?_|refine hg ?_|refine J4 hc h (NX (by assumption)) (fun s1 U hz hm hc h=>?_)|refine Bh.go (NC (lL (by assumption))) hc h (fun v s1 U hr hm hc h=>?_) (fun e s1 U hc h=>?_)|refine Bh.go (NC (lK (by assumption))) hc h (fun v s1 U hr hm hc h=>?_) (fun e s1 U hc h=>?_)|refine Bh.mM hi hF.lE hc h (fun n s1 U hr hm hc h=>?_) (fun e s1 U hc h=>?_)|exact Eu hc.drop h VI|refine Ar [(0,true),(1,true),(2,true),(3,true),(4,true),(5,true),(6,false),(7,false),(8,true),(9,false)] [] (by decide +kernel) ?_|refine Ar [(0,true),(1,true),(2,true),(3,false),(4,true),(5,false),(6,true),(7,false)] [1] (by decide +kernel) ?_|refine Ar [(0,true),(1,true),(2,true),(3,true),(4,true),(5,false),(6,false),(7,true),(8,false)] [] (by decide +kernel) ?_|with_reducible refine WF ?_)
  all_goals conv=>whnf
  all_goals exact ⟨⟨(),_,_,.full⟩,⟨hc,Rd.Ho h (by omega),(by dsimp only;omega),(by dsimp only;omega)⟩,(by dsimp only;omega),Yl,St.le_refl _⟩
end
section
variable {st:St} {R:AM→St→Prop}
attribute [local irreducible] Go.Aw.Ai
theorem iE {f:FuncId} {c:Nat} {s:Ae} {deep:Int} {q:Rs} (hq:¬deep<1→∀(b:Nat) (st5:St) (R:AM→St→Prop),st.le st5→Has st5 b s→Fu st5 b R q→PC f [.ptr b 0,.int .i64 (if 100<deep then 100 else deep),.ptr c 0] st5 R) (h:R (.ret (QF (Bz s deep q))) st):PC 49 [CN s,.int .i64 deep,.func f [] [.ptr c 0]] st R:=by
 refine A5.ends (LA Ac [6,7,8,9,12] Tryz.func49 rfl (by decide) rfl rfl rfl rfl rfl rfl ⟨_,Tryz.func95,rfl,by decide⟩ rfl ?_)
 repeat' ((conv=>whnf);first|exact FR|(refine BQ ?_;intros)|(refine FT ?_ ?_ ?_;rotate_left)|(refine BR ?_ ?_<;>intro e h)|(refine BS ?_ ?_<;>intro _)|refine R9 (fun b5 f5=>?_)|refine At (St.Ah ..) ?_|with_reducible refine WF ?_)
 rename_i b1 f1 b2 f2 b3 f3 b4 f4
 obtain ⟨n12,f2a⟩:=Bp f2
 obtain ⟨n23,f3a⟩:=Bp f3
 obtain ⟨n13,f3b⟩:=Bp f3a
 obtain ⟨n34,f4a⟩:=Bp f4
 obtain ⟨n24,f4b⟩:=Bp f4a
 obtain ⟨n14,f4c⟩:=Bp f4b
 obtain ⟨n45,f5a⟩:=Bp f5
 obtain ⟨n35,f5b⟩:=Bp f5a
 obtain ⟨n25,f5c⟩:=Bp f5b
 obtain ⟨n15,f5d⟩:=Bp f5c
 conv=>whnf
 refine ⟨rfl,Ax rfl ?_⟩
 generalize hst5:St.Ab _ b5 [V.ptr b4 0]=st5
 have k1:st5.box b1=some C8:=by subst hst5;rw [St.Aq n15.symm,St.Aq n15.symm,St.Aq n14.symm,St.Aq n13.symm,St.Aq n12.symm,St.Ah];rfl
 have k2:st5.box b2=some [.slice 4 (Av En.Ak) .full,.int .i64 En.pos,.slice 1 (ints En.CG) .full,.int .i64 En.wait]:=by subst hst5;rw [St.Aq n25.symm,St.Aq n25.symm,St.Aq n24.symm,St.Aq n23.symm,St.Ah];rfl
 have k3:st5.box b3=some [.int .i64 0]:=by subst hst5;rw [St.Aq n35.symm,St.Aq n35.symm,St.Aq n34.symm,St.Ah]
 have k4:Has st5 b4 s:=by subst hst5;refine .inr ⟨YZ,En,.full,.full,0,?_⟩;rw [St.Aq n45.symm,St.Aq n45.symm,St.Ah];rfl
 have k5:st5.box b5=some [.ptr b4 0]:=by subst hst5;rw [St.Ah]
 have kle:st.le st5:=by
  subst hst5
  exact St.Am (St.Am (St.Am (St.Am (St.Am (St.Am (St.le_refl _) f1.1 _) f2a.1 _) f3b.1 _) f4c.1 _) f5d.1 _) f5d.1 _
 have kpan:∀(U:St) (e:Int) (s':Ae),GR st5 U b4 s'→U.box b5=some [.ptr b4 0]∧U.box b1=some C8∧U.box b2=some [.slice 4 (Av En.Ak) .full,.int .i64 En.pos,.slice 1 (ints En.CG) .full,.int .i64 En.wait]∧U.box b3=some [.int .i64 0]∧st.le U:=by
  rintro U e s' ⟨_,cs,rfl⟩
  exact ⟨by rw [St.Aq n45];exact k5,by rw [St.Aq n14.symm];exact k1,by rw [St.Aq n24.symm];exact k2,by rw [St.Aq n34.symm];exact k3,St.Am kle f4c.1 _⟩
 clear hst5 f2 f3 f4 f5 f3a f4a f4b f5a f5b f5c
 refine Au (As Ac ?_)
 repeat' ((conv=>whnf);first|exact FR|(refine BQ ?_;intros)|(refine FT ?_ ?_ ?_;rotate_left)|(refine BR ?_ ?_<;>intro e h)|(refine BS ?_ ?_<;>intro _)|refine At k5 ?_|refine EM ?_|with_reducible refine WF ?_)
 ·refine H4 (n0:=MS) (s0:=En) k5 k4 k1 k2 k3 n15 n14 n12 n13 n25 n24 n23 ?_
  have g1:(((st5.Ab b1 C8).Ab b2 s.cells).Ab b3 [.int .i64 2]).box b1=some C8:=by rw [St.Aq n13.symm,St.Aq n12.symm,St.Ah]
  have g2:(((st5.Ab b1 C8).Ab b2 s.cells).Ab b3 [.int .i64 2]).box b2=some s.cells:=by rw [St.Aq n23.symm,St.Ah]
  have gl:st.le (((st5.Ab b1 C8).Ab b2 s.cells).Ab b3 [.int .i64 2]):=St.Am (St.Am (St.Am kle f1.1 _) f2a.1 _) f3b.1 _
  unfold Bz at h
  rw [if_pos (by assumption)] at h
  repeat' ((conv=>whnf);first|exact FR|(refine BQ ?_;intros)|(refine FT ?_ ?_ ?_;rotate_left)|(refine BR ?_ ?_<;>intro e h)|(refine BS ?_ ?_<;>intro _)|refine At g1 ?_|refine At g2 ?_|refine At (St.Ah ..) ?_|with_reducible refine WF ?_)
  all_goals exact Ej gl rfl h
 ·rename_i hd
  unfold Bz at h
  rw [if_neg hd] at h
  have hq:=fun st5 R h=>hq hd b4 st5 R h
  refine Au (As Ac ?_)
  cases q with
  |inl q=>
   obtain ⟨e,s'⟩:=q
   repeat' ((conv=>whnf);first|exact FR|(refine BQ ?_;intros)|(refine FT ?_ ?_ ?_;rotate_left)|(refine BR ?_ ?_<;>intro e h)|(refine BS ?_ ?_<;>intro _)|refine At k5 ?_|refine ⟨_,rfl,?_⟩|refine hq _ _ kle k4 (fun U hu=>?_)|with_reducible refine WF ?_)
   obtain ⟨j5,j1,j2,j3,jle⟩:=kpan U e s' hu
   refine H4 (n0:=MS) (s0:=En) j5 hu.1 j1 j2 j3 n15 n14 n12 n13 n25 n24 n23 ?_
   have g1:(((U.Ab b1 C8).Ab b2 s'.cells).Ab b3 [.int .i64 e]).box b1=some C8:=by rw [St.Aq n13.symm,St.Aq n12.symm,St.Ah]
   have g2:(((U.Ab b1 C8).Ab b2 s'.cells).Ab b3 [.int .i64 e]).box b2=some s'.cells:=by rw [St.Aq n23.symm,St.Ah]
   have gl:st.le (((U.Ab b1 C8).Ab b2 s'.cells).Ab b3 [.int .i64 e]):=St.Am (St.Am (St.Am jle f1.1 _) f2a.1 _) f3b.1 _
   repeat' ((conv=>whnf);first|exact FR|(refine BQ ?_;intros)|(refine FT ?_ ?_ ?_;rotate_left)|(refine BR ?_ ?_<;>intro e h)|(refine BS ?_ ?_<;>intro _)|refine At g1 ?_|refine At g2 ?_|refine At (St.Ah ..) ?_|with_reducible refine WF ?_)
   all_goals exact Ej gl rfl h
  |inr q=>
   obtain ⟨n,s'⟩:=q
   have kret:=fun U hu=>kpan U 0 s' hu
   repeat' ((conv=>whnf);first|exact FR|(refine BQ ?_;intros)|(refine FT ?_ ?_ ?_;rotate_left)|(refine BR ?_ ?_<;>intro e h)|(refine BS ?_ ?_<;>intro _)|refine At k5 ?_|refine ⟨_,rfl,?_⟩|refine hq _ _ kle k4 (fun U hu=>?_)|refine At (kret U hu).2.1 ?_|with_reducible refine WF ?_)
   obtain ⟨j5,j1,j2,j3,jle⟩:=kret U hu
   generalize hst7:U.Ab b1 (A3 n)=st7
   have i1:st7.box b1=some (A3 n):=by subst hst7;rw [St.Ah]
   have i5:st7.box b5=some [.ptr b4 0]:=by subst hst7;rw [St.Aq n15];exact j5
   have i2:st7.box b2=some [.slice 4 (Av En.Ak) .full,.int .i64 En.pos,.slice 1 (ints En.CG) .full,.int .i64 En.wait]:=by subst hst7;rw [St.Aq n12];exact j2
   have i3:(st7.Ab b2 s'.cells).box b3=some [.int .i64 0]:=by subst hst7;rw [St.Aq n23,St.Aq n13];exact j3
   have i4:Has st7 b4 s':=by
    subst hst7
    rcases hu.1 with e|⟨t,u,o1,o2,e',e⟩
    ·exact .inl (by rw [St.Aq n14];exact e)
    ·exact .inr ⟨t,u,o1,o2,e',by rw [St.Aq n14];exact e⟩
   have ile:st.le st7:=by subst hst7;exact St.Am jle f1.1 _
   refine Au (Vi Ac (Ce _) (fun bs=>cB bs b1 b2 b3 b4 b5 (A3 n) s'.cells) (cD st7 b2 b3 s'.cells) Nw (by decide +kernel) Yl (by rw [←hst7];exact St.le_refl _) ?_ ?_)
   ·skip
    unfold Nw
    rcases i4 with i4|⟨t,u,q1,q2,q3,i4⟩
    all_goals repeat' (first|refine List.forall_mem_cons.2 ⟨?_,?_⟩|exact fun _ h=>nomatch h)
    repeat' ((conv=>whnf);first|exact FR|(refine BQ ?_;intros)|(refine FT ?_ ?_ ?_;rotate_left)|(refine BR ?_ ?_<;>intro e h)|(refine BS ?_ ?_<;>intro _)|refine At i5 ?_|refine At i1 ?_|refine At i4 ?_|refine At i2 ?_|refine At i3 ?_|with_reducible refine WF ?_)
    all_goals conv=>whnf
    all_goals (refine ⟨Yl,?_⟩)
    all_goals first|exact St.le_refl _|exact Yk i1
   ·refine As Ac (Ot (bp:=b5) ?_)
    have g1:((st7.Ab b2 s'.cells).Ab b3 [.int .i64 0]).box b1=some (A3 n):=by rw [St.Aq n13.symm,St.Aq n12.symm];exact i1
    have g2:((st7.Ab b2 s'.cells).Ab b3 [.int .i64 0]).box b2=some s'.cells:=by rw [St.Aq n23.symm,St.Ah]
    have gl:st.le ((st7.Ab b2 s'.cells).Ab b3 [.int .i64 0]):=St.Am (St.Am ile f2a.1 _) f3b.1 _
    repeat' ((conv=>whnf);first|exact FR|(refine BQ ?_;intros)|(refine FT ?_ ?_ ?_;rotate_left)|(refine BR ?_ ?_<;>intro e h)|(refine BS ?_ ?_<;>intro _)|refine At g1 ?_|refine At g2 ?_|refine At (St.Ah ..) ?_|with_reducible refine WF ?_)
    all_goals exact Ej gl rfl h
end
def EA (A:Rd Nd) (s:Ae):Rs:=match A.run s with
 | .inl p=>.inl (p.1.1,p.2)
 | .inr p=>.inr p
section
variable {st0 st:St} {b c d:Nat} {s:Ae} {K R:AM→St→Prop}
theorem Cx.oW {s':Ae} {st':St} (h:Has st' b s') (hr:∃cs,Rx (st.Ab b cs) st' []):∃U,GR st U b s'∧St.le U st':=by
 obtain ⟨cs,hr⟩:=hr
 have hb:=hr.le.1 b cs (St.Ah ..)
 refine ⟨st.Ab b cs,⟨?_,cs,rfl⟩,hr.le⟩
 rcases h with e|⟨t,u,o1,o2,e0,e⟩
 ·rw [hb] at e;injection e with e;subst e;exact .inl (St.Ah ..)
 ·rw [hb] at e;injection e with e;subst e;exact .inr ⟨t,u,o1,o2,e0,St.Ah ..⟩
theorem gz {f:FuncId} {mk:Nat→List V} {A:Rd Nd} (hf:Bh enc f mk A) (hs:Has st b s) (hm:mu s≤100000000) (ht:Fu st b K (EA A s)):PC f (mk b) st K:=by
 refine A5.ends (hf.ap (Cx.start hs hm) (Rd.UZ (fun v s' e st' hc=>?_) (fun e s' he st' hc=>?_)))
 ·unfold EA at ht
  rw [e] at ht
  obtain ⟨U,hu,hl⟩:=Cx.oW hc.has hc.rx
  exact ⟨_,U,.inl rfl,hl,ht U hu⟩
 ·unfold EA at ht
  rw [he] at ht
  obtain ⟨U,hu,hl⟩:=Cx.oW hc.has hc.rx
  exact ⟨_,U,.inl rfl,hl,ht U hu⟩
theorem nH {g:FuncId} {A:Rd Nd} (hA:Bh enc g (fun b=>[pv b d]) A) (hx:st.box c=some [.func g [] []]) (hs:Has st b s) (hm:mu s≤100000000) (ht:Fu st b K (EA A s)):PC 107 [.ptr b 0,.int .i64 (d:Int),.ptr c 0] st K:=by
 have U:∀{K:AM→St→Prop},Fu st b K (EA A s)→PC g [pv b d] st K:=fun h=>gz hA hs hm h
 refine Aa Ac [] Tryz.func107 rfl (by decide) ?_
 unfold EA at *
 cases hr:A.run s with
 |inl p=>
  rw [hr] at ht U
  repeat' ((conv=>whnf);first|(refine BQ ?_;intros)|(refine BR ?_ ?_<;>intro e h)|(refine BS ?_ ?_<;>intro _)|refine At hx ?_|refine U (fun st1 hu=>?_))
  all_goals exact ⟨_,_,.inl rfl,St.le_refl _,ht _ hu⟩
 |inr p=>
  rw [hr] at ht U
  repeat' ((conv=>whnf);first|(refine BQ ?_;intros)|(refine BR ?_ ?_<;>intro e h)|(refine BS ?_ ?_<;>intro _)|refine At hx ?_|refine U (fun st1 hu=>?_))
  all_goals exact B8 rfl (ht _ hu)
theorem dC {g:FuncId} {deep:Int} {A:Nat→Rd Nd} (hA:∀d:Nat,1≤d→d≤100→Bh enc g (fun b=>[pv b d]) (A d)) (hm:mu s≤100000000) (h:K (.ret (QF (Bz s deep (EA (A (DK deep)) s)))) st):
 PC 55 [CN s,.int .i64 deep,.func g [] []] st K:=by
 refine BF Ac [] Tryz.func55 rfl (by decide) rfl ?_
 refine Au (As Ac ?_)
 repeat' ((conv=>whnf);first|(refine BQ ?_;intros)|(refine BR ?_ ?_<;>intro e h)|(refine BS ?_ ?_<;>intro _)|fail)
 refine Rb 5 1 rfl rfl rfl (fun c fc=>?_)
 refine As Ac ?_
 have hq:¬deep<1→∀(b:Nat) (U:St) (R:AM→St→Prop),(st.Ab c [.func g [] []]).le U→Has U b s→Fu U b R (EA (A (DK deep)) s)→PC 107 [.ptr b 0,.int .i64 (if 100<deep then 100 else deep),.ptr c 0] U R:=fun hd b U R hle hs ht=>by
  have e:(if 100<deep then 100 else deep)=((DK deep:Nat):Int):=by unfold DK;split<;>omega
  rw [e]
  exact nH (hA _ (by unfold DK;split<;>omega) (by unfold DK;split<;>omega)) (hle.1 _ _ (St.Ah ..)) hs hm ht
 obtain ⟨n,s',e,hq3⟩:∃n s' e,Bz s deep (EA (A (DK deep)) s)=(n,s',e):=⟨_,_,_,rfl⟩
 rw [hq3] at h
 have hcat:∀{K:AM→St→Prop},K (.ret (ML n s' e)) (st.Ab c [.func g [] []])→PC 49 [CN s,.int .i64 deep,.func 107 [] [.ptr c 0]] (st.Ab c [.func g [] []]) K:=fun k=>iE (s:=s) (q:=EA (A (DK deep)) s) hq (by rw [hq3];exact k)
 repeat' ((conv=>whnf);first|(refine BQ ?_;intros)|(refine BR ?_ ?_<;>intro e h)|(refine BS ?_ ?_<;>intro _)|refine hcat ?_)
 all_goals exact Ej (St.Am (St.le_refl _) fc.1 _) rfl h
end
section
variable {d:Nat}
theorem cO {t:Tk} {st:St} {K:AM→St→Prop} (h:K (.ret (.bool (Fz t))) st):PC 109 [FV t] st K:=by
 refine Aa Ac [] Tryz.func109 rfl (by decide) ?_
 repeat' ((conv=>whnf);first|(refine BQ ?_;intros)|(refine BR ?_ ?_<;>intro e h)|(refine BS ?_ ?_<;>intro _)|refine Oj ?_|refine X8 ?_)
 all_goals conv=>whnf
 all_goals (refine AB h ?_;clear h;simp_all [Fz])
theorem Zm {item:Rd Nd} (hi:Bh enc 72 (fun b=>[pv b d]) item) (hD:Dv item):Bh enc 56 (fun b=>[pv b d]) (Da Fz item):=by
 refine ⟨fun {st0 b s st rows K} hc h=>?_⟩
 refine Aa Ac [] Tryz.func56 rfl (by decide) ?_
 repeat' ((conv=>whnf);first|(refine BQ ?_;intros)|(refine BR ?_ ?_<;>intro e h)|(refine BS ?_ ?_<;>intro _)|exact E2|refine Al (fun e1=>?_)|refine Bh.go (Om (fun h=>cO h) hi hD) hc h (fun n s1 U hr hm hc h=>?_) (fun e s1 U hc h=>?_))
theorem Zn {item:Rd Nd} (hi:Bh enc 60 (fun b=>[pv b d]) item) (hD:Dv item):Bh enc 78 (fun b=>[pv b d]) (Da BO item):=by
 refine ⟨fun {st0 b s st rows K} hc h=>?_⟩
 refine Aa Ac [] Tryz.func78 rfl (by decide) ?_
 repeat' ((conv=>whnf);first|(refine BQ ?_;intros)|(refine BR ?_ ?_<;>intro e h)|(refine BS ?_ ?_<;>intro _)|exact E2|refine Al (fun e1=>?_)|refine Bh.go (Om (fun h=>Oj h) hi hD) hc h (fun n s1 U hr hm hc h=>?_) (fun e s1 U hc h=>?_))
theorem cu {item:Rd Nd} (hi:Bh enc 69 (fun b=>[pv b d]) item) (hD:Dv item):Bh enc 79 (fun b=>[pv b d]) (Da BO item):=by
 refine ⟨fun {st0 b s st rows K} hc h=>?_⟩
 refine Aa Ac [] Tryz.func79 rfl (by decide) ?_
 repeat' ((conv=>whnf);first|(refine BQ ?_;intros)|(refine BR ?_ ?_<;>intro e h)|(refine BS ?_ ?_<;>intro _)|exact E2|refine Al (fun e1=>?_)|refine Bh.go (Om (fun h=>Oj h) hi hD) hc h (fun n s1 U hr hm hc h=>?_) (fun e s1 U hc h=>?_))
structure pE (D:Nat) (full:Rd Nd) (L:Eo):Prop where
 atom:Bh enc 202 (fun b=>[pv b D]) (lz L)
 exp:Bh enc 80 (fun b=>[pv b D]) (Hb full L)
 ops:Bh enc 130 (fun b=>[pv b D]) (opsL L)
 stmt:Bh enc 60 (fun b=>[pv b D]) (JB full L)
 alt:Bh enc 69 (fun b=>[pv b D]) (bR full L)
 decl:Bh enc 72 (fun b=>[pv b D]) (K3 full L)
 decls:Bh enc 56 (fun b=>[pv b D]) (Da Fz (K3 full L))
 stmts:Bh enc 78 (fun b=>[pv b D]) (Da BO (JB full L))
 alts:Bh enc 79 (fun b=>[pv b D]) (Da BO (bR full L))
 Dz:∀o,Bh enc 340 (fun b=>[pv b D,enc o]) (BU (GI L) full (Hb full L) o)
 list:∀o,Bh enc 342 (fun b=>[pv b D,enc o]) (Lk (Hb full L) (JB full L) o)
theorem pK {full:Rd Nd} {L:Eo} (hL:Ku d L) (hD:KQ L) (hf:Bh enc 203 (fun b=>[pv b d]) full) (hF:Dv full):pE d full L:=by
 have atom:=ij hL
 have dat:=K7 hD
 have U:=WT hL atom TA
 have ops:=fu U
 have exp:=mG U hf
 have stmt:=kT hL exp
 have alt:=l9 hL ops exp stmt
 have decl:=iL hL atom dat ops (OG (L3 hD)) exp stmt hf
 exact ⟨atom,exp,ops,stmt,alt,decl,Zm decl (OC hF hD),Zn stmt (Jf hF hD),cu alt (XQ hF hD),fun o=>Rm U hf exp,fun o=>jX exp stmt⟩
theorem oL:∀d,d≤100→Ku (d+1) (EP d)
 |0,_=>⟨DB (by omega) (fun _=>rfl) (fun h=>absurd rfl h),DB (by omega) (fun _=>rfl) (fun h=>absurd rfl h),DB (by omega) (fun _=>rfl) (fun h=>absurd rfl h),DB (by omega) (fun _=>rfl) (fun h=>absurd rfl h),
   DB (by omega) (fun _=>rfl) (fun h=>absurd rfl h),DB (by omega) (fun _=>rfl) (fun h=>absurd rfl h),fun U hc h=>NG (by omega) (fun _=>rfl) hc h (fun h=>absurd rfl h),fun U hc h=>NG (by omega) (fun _=>rfl) hc h (fun h=>absurd rfl h)⟩
 |d+1,h=>by
  have l:=pK (oL d (by omega)) (OE d) (X9 (d:=d) (by omega)) (Je _)
  have no:∀{p:Prop},d+1=0→p:=fun e=>by cases e
  exact ⟨DB (by omega) no fun _=>l.atom,DB (by omega) no fun _=>l.exp,DB (by omega) no fun _=>l.ops,DB (by omega) no fun _=>l.decls,DB (by omega) no fun _=>l.stmts,DB (by omega) no fun _=>l.alts,
   fun U hc h=>NG (by omega) no hc h fun _ K h=>fK (l.Dz _) U hc h,fun U hc h=>NG (by omega) no hc h fun _ K h=>aV (l.list _) U hc h⟩
theorem oI (U:1≤d) (h:d≤100):pE d (Ee d) (EP (d - 1)):=by
 obtain ⟨d,rfl⟩:∃e,d=e+1:=⟨d - 1,by omega⟩
 exact pK (oL d (by omega)) (OE d) (X9 (d:=d) (by omega)) (Je _)
def Ni (d:Nat):Rd Nd:=Hb (Ee d) (EP (d - 1))
def cN (d:Nat):Rd Nd:=K3 (Ee d) (EP (d - 1))
def Ei (d:Nat):Rd Nd:=Da Fz (cN d)
end
section
variable {st:St} {K:AM→St→Prop} {s:Ae} {deep:Int}
theorem nV (hm:mu s≤100000000) (h:K (.ret (QF (Bz s deep (EA (Ni (DK deep)) s)))) st):PC 36 [CN s,.int .i64 deep] st K:=by
 refine Aa Ac [] Tryz.func36 rfl (by decide) ?_
 repeat' ((conv=>whnf);first|(refine BQ ?_;intros)|(refine BR ?_ ?_<;>intro e h)|(refine BS ?_ ?_<;>intro _)|refine dC (s:=s) (A:=Ni) (fun d U h1=>(oI U h1).exp) hm ?_)
 all_goals exact B8 rfl h
theorem gQ (hm:mu s≤100000000) (h:K (.ret (QF (Bz s deep (EA (Ei (DK deep)) s)))) st):PC 20 [CN s,.int .i64 deep] st K:=by
 refine Aa Ac [] Tryz.func20 rfl (by decide) ?_
 repeat' ((conv=>whnf);first|(refine BQ ?_;intros)|(refine BR ?_ ?_<;>intro e h)|(refine BS ?_ ?_<;>intro _)|refine dC (s:=s) (A:=Ei) (fun d U h1=>(oI U h1).decls) hm ?_)
 all_goals exact B8 rfl h
end
end Go.Proofs.YtkidoddkbhchkaaGreatDoor
namespace Go.Proofs.YtkidoddkbhchkaaGreatDoor
open Go Go.Aw
open Rd (Ap)
theorem kU {l:List Tk} (h:lZ l=true):Y4 l:=fun t U=>by
 have:=List.all_eq_true.1 h t U
 simp only [Bool.and_eq_true,decide_eq_true_eq] at this
 exact ⟨this.1,this.2.1,this.2.2⟩
theorem pX:∃x,Fs js=.inr x∧x.Ak=ZS:=by
 have h:=jt
 unfold ZS
 cases e:Fs js with
 |inl p=>rw [e] at h;cases h
 |inr x=>exact ⟨x,rfl,rfl⟩
theorem pY:∃n s',(Ei 5).run dK=.inr (n,s')∧n.kind=2∧n.form=0∧s'.pos=(s'.Ak.length:Nat)∧∃k1 k2,n.kids=[k1,k2]∧k1.kind=36∧k2.kind=35:=by
 have h:=oo
 cases e:(Ei 5).run dK with
 |inl p=>rw [show (Da Fz (K3 (Ee 5) (EP 4))).run dK=_ from e] at h;cases h
 |inr p=>
  obtain ⟨n,s'⟩:=p
  rw [show (Da Fz (K3 (Ee 5) (EP 4))).run dK=_ from e] at h
  simp only [Bool.and_eq_true,beq_iff_eq] at h
  obtain ⟨⟨h1,h2⟩,h3,U⟩:=h
  refine ⟨n,s',rfl,h1,h2,h3,?_⟩
  match hk:n.kids,U with
  |[k1,k2],U=>
   simp only [List.map_cons,List.map_nil,List.cons.injEq,and_true] at U
   exact ⟨k1,k2,rfl,U.1,U.2⟩
  |[],U=>simp at U
  |[_],U=>simp at U
  |_::_::_::_,U=>simp at U
theorem pZ:∃n s',(Ni 2).run ⟨P7,0,[],0⟩=.inr (n,s')∧n.kind=9:=by
 have h:=oq
 cases e:(Ni 2).run ⟨P7,0,[],0⟩ with
 |inl p=>rw [show (Hb (Ee 2) (EP 1)).run ⟨P7,0,[],0⟩=_ from e] at h;cases h
 |inr p=>
  obtain ⟨n,s'⟩:=p
  rw [show (Hb (Ee 2) (EP 1)).run ⟨P7,0,[],0⟩=_ from e] at h
  simp only [beq_iff_eq] at h
  exact ⟨n,s',rfl,h⟩
theorem Ta {s s':Ae} {deep:Int} {A:Nat→Rd Nd} {n:Nd} (U:¬deep<1) (e:(A (DK deep)).run s=.inr (n,s')):Bz s deep (EA (A (DK deep)) s)=(n,s',0):=by
 unfold Bz EA
 rw [if_neg U,e]
section
variable {st:St} {K:AM→St→Prop}
theorem mW {s:List UInt8} {x:Lx} (hs:Fs s=.inr x) (h:∀w1 w2 st',st.le st'→K (.ret (.Bo [.slice 4 (Av x.Ak) w1,.slice 5 (Hw x.notes) w2,.int .i64 0,.int .i64 0])) st'):PC 13 [.str s] st K:=by
 refine eD (fun i' e' U=>?_) (fun i' e' st' hle U=>?_) (fun x w1 w2 st' U hle=>?_)
 ·rw [hs] at U;cases U
 ·rw [hs] at U;cases U
 ·rw [hs] at U;injection U with U;subst U;exact h w1 w2 st' hle
theorem jo {s:List UInt8} {x:Lx} (hs:Fs s=.inr x) (hok:Y4 x.Ak) (hn:x.Ak.length≤100000000) (h:∀st',st.le st'→K (.ret (CN ⟨HG x.Ak,0,[],0⟩)) st'):PC 19 [.str s] st K:=by
 refine Aa Ac [] Tryz.func19 rfl (by decide) ?_
 repeat' ((conv=>whnf);first|(refine Bc ?_;intros)|(refine Be ?_ ?_<;>intro _)|refine mW hs (fun w1 w2 st1 U=>?_)|refine ki hok hn ?_)
 all_goals exact ⟨_,_,.inr rfl,St.le_refl _,h st1 U⟩
theorem HW {s s':Ae} {deep e:Int} {n:Nd} (U:mu s≤100000000) (hq:Bz s deep (EA (Ei (DK deep)) s)=(n,s',e)) (h:K (.ret (ML n s' e)) st):PC 20 [CN s,.int .i64 deep] st K:=gQ U (by rw [hq];exact h)
theorem Xr {s s':Ae} {deep e:Int} {n:Nd} (U:mu s≤100000000) (hq:Bz s deep (EA (Ni (DK deep)) s)=(n,s',e)) (h:K (.ret (ML n s' e)) st):PC 36 [CN s,.int .i64 deep] st K:=nV U (by rw [hq];exact h)
theorem Gw (h:∀st',st.le st'→K (.ret (.bool true)) st'):PC 18 [] st K:=by
 refine Aa Ac [] Tryz.func18 rfl (by decide) ?_
 obtain ⟨x,hx,U⟩:=pX
 have hok:=jr
 simp only [Bool.and_eq_true,decide_eq_true_eq] at hok
 have hms:=of_decide_eq_true jq
 obtain ⟨n,s1,r1,a1,a2,a3,k1,k2,a4,a5,a6⟩:=pY
 obtain ⟨m,s2,r2,b1⟩:=pZ
 have hk0:n.kids[(0:Int).toNat]? =some k1:=by rw [a4];rfl
 have hk1:n.kids[(1:Int).toNat]? =some k2:=by rw [a4];rfl
 have hkl:(n.kids.length:Int)=2:=by rw [a4];rfl
 have hm1:mu ⟨HG x.Ak,0,[],0⟩≤100000000:=by rw [U];unfold mu;simp only [List.length_nil];omega
 have hm2:mu ⟨P7,0,[],0⟩≤100000000:=by decide
 have c1:Bz ⟨HG x.Ak,0,[],0⟩ 5 (EA (Ei (DK 5)) ⟨HG x.Ak,0,[],0⟩)=(n,s1,0):=by rw [U];exact Ta (A:=Ei) (by decide) r1
 have c2:Bz ⟨P7,0,[],0⟩ 2 (EA (Ni (DK 2)) ⟨P7,0,[],0⟩)=(m,s2,0):=Ta (A:=Ni) (by decide) r2
 have hc2:∀{st:St} {K:AM→St→Prop},K (.ret (ML m s2 0)) st→PC 36 [.agg [.slice 4 (Av P7) .full,.int .i64 0,.slice 1 [] .full,.int .i64 0],.int .i64 2] st K:=fun h=>JV (args':=[CN ⟨P7,0,[],0⟩,.int .i64 2]) rfl (Xr hm2 c2 h)
 repeat' ((conv=>whnf);first|(refine Bc ?_;intros)|(refine Be ?_ ?_<;>intro _)|refine jo hx (by rw [U]<;>exact kU hok.1) (by rw [U]<;>omega) (fun st1 hle1=>?_)|refine HW hm1 c1 ?_|refine hc2 ?_)
 all_goals conv=>whnf
 all_goals exact fin (h st1 hle1) rfl
end
theorem Za {d d':Nat} (h:d≤d'):Ap (Ei d) (Ei d'):=
 have U:=eL (d:=d - 1) (d':=d' - 1) (by omega)
 have hf:=Xz h
 KS (Xy U (Nr U) (Ob (LQ U)) (H2 hf U) (IZ hf U) hf)
theorem iM {d m:Int} (h:d≤m) (s:Ae) (U:¬(Bz s d (EA (Ei (DK d)) s)).2.2=2):Bz s m (EA (Ei (DK m)) s)=Bz s d (EA (Ei (DK d)) s):=by
 unfold Bz at *
 by_cases h1:d<1
 ·rw [if_pos h1] at U;exact absurd rfl U
 ·rw [if_neg h1] at U ⊢
  rw [if_neg (by omega)]
  rcases Za (d:=DK d) (d':=DK m) (by unfold DK;split<;>split<;>omega) s with ⟨e,t,h2,h3⟩|h2
  ·unfold EA at U
   rw [h2] at U
   exact absurd h3 U
  ·unfold EA;rw [h2]
theorem pJ {s:Ae} (h:s.Ak.length≤1000∧s.CG.length≤1000):mu s≤100000000:=by unfold mu;omega
section
variable {st:St} {K:AM→St→Prop}
theorem Hx {s:Ae} {v:Bool} (U:v=(decide (s.Ak.length≤1000)&&decide (s.CG.length≤1000))) (h:K (.ret (.bool v)) st):PC 23 [CN s] st K:=by
 refine Aa Ac [] Tryz.func23 rfl (by decide) ?_
 repeat' ((conv=>whnf);first|(refine Bc ?_;intros)|(refine Be ?_ ?_<;>intro _)|fail)
 all_goals conv=>whnf
 all_goals (refine AB h ?_;clear h;rw [U])
 all_goals simp only [Bool.and_eq_true,decide_eq_true_eq,Bool.and_eq_false_iff,decide_eq_false_iff_not]
 all_goals omega
theorem RC {R:AM→St→Prop} {s:Ae} {deep more:Int} (h:∀st',R (.ret (.bool true)) st'):PC 5 [CN s,.int .i64 deep,.int .i64 more] st R:=by
 refine Aa Ac [] Tryz.func5 rfl (by decide) ?_
 by_cases hs:s.Ak.length≤1000∧s.CG.length≤1000
 ·have hm:=pJ hs
  have hv:true=(decide (s.Ak.length≤1000)&&decide (s.CG.length≤1000)):=by simp [hs]
  by_cases hd:more<deep
  ·skip
   repeat' ((conv=>whnf);first|(refine Bc ?_;intros)|(refine Be ?_ ?_<;>intro _)|refine Hx hv ?_|refine Gw (fun st1 U=>?_))
   all_goals exact fin (h _) rfl
  ·generalize hq:Bz s deep (EA (Ei (DK deep)) s)=q
   have hq2:=iM (d:=deep) (m:=more) (by omega) s
   rw [hq] at hq2
   obtain ⟨n,t,e⟩:=q
   by_cases he:e=2
   ·skip
    repeat' ((conv=>whnf);first|(refine Bc ?_;intros)|(refine Be ?_ ?_<;>intro _)|refine Hx hv ?_|refine Gw (fun st1 U=>?_)|refine HW hm hq ?_)
    all_goals exact fin (h _) rfl
   ·have hq2:=hq2 he
    repeat' ((conv=>whnf);first|(refine Bc ?_;intros)|(refine Be ?_ ?_<;>intro _)|refine Hx hv ?_|refine Gw (fun st1 U=>?_)|refine HW (deep:=deep) hm hq ?_|refine HW (deep:=more) hm hq2 ?_|refine aN _ (Nat.le_refl _) ?_|refine Uv ?_)
    all_goals exact fin (h _) rfl
 ·have hv:false=(decide (s.Ak.length≤1000)&&decide (s.CG.length≤1000)):=by
   symm;simp only [Bool.and_eq_false_iff,decide_eq_false_iff_not];omega
  repeat' ((conv=>whnf);first|(refine Bc ?_;intros)|(refine Be ?_ ?_<;>intro _)|refine Hx hv ?_|refine Gw (fun st1 U=>?_))
  all_goals exact fin (h _) rfl
end
end Go.Proofs.YtkidoddkbhchkaaGreatDoor
namespace Go.Proofs.YtkidoddkbhchkaaGreatDoor
open Go Go.Aw
section
variable {H:Type}
theorem Vm:Tryz.prog.cellsOf 3=1:=by kernel_rfl
theorem Zu {n:Nat} {d:DataW H} {vs:List V} (h:dec Tryz.prog n 31 d=some vs):∃l:List Int,vs=[.slice 1 (ints l) .any]:=by
 obtain ⟨m,es,ds,rfl,rfl,U,hb⟩:=Qy Tryz.underlying31 h
 obtain ⟨l,rfl,hs⟩:=Ox (f:=fun n=>[V.int .i64 n]) (w:=fun _=>0) (fun d vs h=>by
  obtain ⟨k,rfl⟩:=FL Tryz.underlying3 h
  exact ⟨k,rfl,Nat.zero_le _⟩) U
 exact ⟨l,by rw [Vm];rfl⟩
theorem Qz {n:Nat} {d:DataW H} {vs:List V} (h:dec Tryz.prog n 33 d=some vs):∃s:Ae,vs=s.cells:=by
 obtain ⟨m,ds,us,rfl,hl,hm,rfl,hb⟩:=Oy Tryz.underlying33 h
 match ds,hl with
 |[d0,d1,d2,d3],_=>
  simp only [List.zip_cons_cons,List.zip_nil_right] at hm
  obtain ⟨u0,r0,h0,U,rfl⟩:=BZ hm
  obtain ⟨u1,r1,h1,hm1,rfl⟩:=BZ U
  obtain ⟨u2,r2,h2,hm2,rfl⟩:=BZ hm1
  obtain ⟨u3,r3,h3,hm3,rfl⟩:=BZ hm2
  cases hm3
  obtain ⟨ts,rfl,_⟩:=Zv h0
  obtain ⟨p,rfl⟩:=FL Tryz.underlying3 h1
  obtain ⟨os,rfl⟩:=Zu h2
  obtain ⟨w,rfl⟩:=FL Tryz.underlying3 h3
  exact ⟨⟨ts,p,os,w⟩,rfl⟩
end
section
variable {st:St} {R:AM→St→Prop}
def Px (k:Int) (t:List UInt8):Bool:=decide (¬k=15)||(!(t==[123])&& !(t==[125])&& !(t==[59]))
theorem QZ {k ln B7:Int} {t:List UInt8} (h:R (.ret (.bool (Px k t))) st):PC 81 [.agg [.int .i64 k,.str t,.int .i64 ln,.int .i64 B7]] st R:=by
 refine Aa Ac [] Tryz.func81 rfl (by decide) ?_
 unfold Px at h
 repeat' ((conv=>whnf);first|(refine Bc ?_;intros)|(refine Be ?_ ?_<;>intro _)|fail)
 all_goals first
  |(refine AB h ?_;simp only [*];rfl)
  |(refine AB h ?_;simp [*])
  |(rename_i U;refine AB h ?_;simp [U])
  |(rename_i U h2;refine AB h ?_;simp [U,h2])
  |(rename_i U h2 h3;refine AB h ?_;simp [U,h2,h3])
  |(rename_i U h2 h3 h4;refine AB h ?_;simp [U,h2,h3,h4])
end
def DhT (t:Tk):Bool:= !(t.kind==16)&&(!(t.kind==17)&&Px t.kind t.text)
def BL (l:List Tk):List Tk:=l.filter DhT
def Kz (l:List Tk) (a b:Int):List Tk:=(l.take b.toNat).drop a.toNat
theorem K2 {l:List Tk} {a:Int}:Kz l a a=[]:=by
 unfold Kz
 exact List.drop_eq_nil_iff.2 (by rw [List.length_take];omega)
theorem iK {l:List Tk} {a:Int} {t:Tk} (U:0≤a) (h:l[a.toNat]? =some t):Kz l a (a+1)=[t]:=by
 unfold Kz
 rw [show (a+1).toNat=a.toNat+1 by omega,List.take_add_one,h]
 have hl:=(List.getElem?_eq_some_iff.1 h).1
 rw [List.drop_append,List.drop_eq_nil_iff.2 (by rw [List.length_take];omega),List.length_take,Nat.min_eq_left (by omega),Nat.sub_self]
 rfl
theorem iJ {l:List Tk} {a b c:Int} (h0:0≤a) (h1:a≤b) (h2:b≤c):Kz l a b++Kz l b c=Kz l a c:=by
 unfold Kz
 obtain ⟨x,rfl⟩:∃x:Nat,a=x:=⟨a.toNat,by omega⟩
 obtain ⟨y,rfl⟩:∃y:Nat,b=y:=⟨b.toNat,by omega⟩
 obtain ⟨z,rfl⟩:∃z:Nat,c=z:=⟨c.toNat,by omega⟩
 simp only [Int.toNat_natCast]
 have e:l.take y=(l.take z).take y:=by rw [List.take_take,Nat.min_eq_left (by omega)]
 rw [e]
 generalize l.take z=m
 have hx:m.drop x=(m.take y).drop x++m.drop y:=by
  have U:m=m.take y++m.drop y:=(List.take_append_drop y m).symm
  by_cases hy:y≤m.length
  ·conv=>lhs;rw [U]
   rw [List.drop_append,List.length_take,Nat.min_eq_left hy,show x - y=0 by omega,List.drop_zero]
  ·rw [List.drop_eq_nil_iff.2 (show m.length≤y by omega),List.append_nil,List.take_of_length_le (by omega)]
 exact hx.symm
structure Ps (s s':Ae) (m:List Tk):Prop where
 tk:s'.Ak=s.Ak
 le:s.pos≤s'.pos
 ok:s'=s∨(0≤s.pos∧s'.pos≤s.Ak.length)
 eq:BL m=BL (Kz s.Ak s.pos s'.pos)
theorem Ps.nil (s:Ae):Ps s s []:=⟨rfl,Int.le_refl _,.inl rfl,by rw [K2]⟩
theorem Ps.trans {s s1 s2:Ae} {m n:List Tk} (h:Ps s s1 m) (k:Ps s1 s2 n):Ps s s2 (m++n):=by
 have ht:=k.tk.trans h.tk
 have hw:BL (m++n)=BL m++BL n:=by unfold BL;rw [List.filter_append]
 rcases h.ok with rfl|⟨a1,a2⟩
 ·refine ⟨ht,k.le,k.ok,?_⟩
  rw [hw,h.eq,K2,k.eq];rfl
 ·have U:=h.le
  rcases k.ok with rfl|⟨b1,b2⟩
  ·refine ⟨ht,U,.inr ⟨a1,a2⟩,?_⟩
   rw [hw,h.eq,k.eq,K2];exact List.append_nil _
  ·have kle:=k.le
   refine ⟨ht,by omega,.inr ⟨a1,by rw [←h.tk];exact b2⟩,?_⟩
   rw [hw,h.eq,k.eq,h.tk,←iJ a1 U kle]
   unfold BL;rw [List.filter_append]
theorem Ps.still {s s':Ae} {m:List Tk} (U:0≤s.pos) (h1:s.pos≤s.Ak.length) (ht:s'.Ak=s.Ak) (hp:s'.pos=s.pos) (hm:BL m=[]):Ps s s' m:=⟨ht,by omega,.inr ⟨U,by omega⟩,by rw [hm,hp,K2];rfl⟩
theorem Ps.step {s s':Ae} {m:List Tk} {t:Tk} (U:0≤s.pos) (h:s.Ak[s.pos.toNat]? =some t) (ht:s'.Ak=s.Ak) (hp:s'.pos=s.pos+1) (hm:BL m=BL [t]):Ps s s' m:=by
 have hl:=(List.getElem?_eq_some_iff.1 h).1
 exact ⟨ht,by omega,.inr ⟨U,by omega⟩,by rw [hm,hp,iK U h]⟩
theorem Mw {t:Tk} (h:t.kind=16∨t.kind=17):BL [t]=[]:=by
 unfold BL DhT
 rcases h with h|h<;>simp [h]
def lv (t:Tk):List Tk:=if t.kind<18 then [t] else []
theorem T6:∀(n:Nat) (s:Ae),(∀t ∈ s.Ak,t.kind<18)→0≤s.pos→s.pos≤s.Ak.length→(Ff n s).2.2=0→Ps s (Ff n s).2.1 (lv (Ff n s).1)
 |n,s,hN,U,h1,h=>by
  have hend:∀{x:Tk×Ae×Int},x=FW s→x.2.2=0→Ps s x.2.1 (lv x.1):=fun {x} e hx=>by
   subst e
   unfold FW at hx ⊢
   split
   ·exact .still U h1 rfl rfl rfl
   ·rename_i e1
    rw [if_neg e1] at hx
    split
    ·exact .still U h1 rfl rfl rfl
    ·rename_i e2;rw [if_neg e2] at hx;cases hx
  cases n with
  |zero=>exact hend rfl h
  |succ n=>
   cases ht:s.Ak[s.pos.toNat]? with
   |none=>exact hend (by rw [Ff,ht]) h
   |some t=>
    have e:Ff (n+1) s=if t.kind=16∧s.wait<2 then ((Gu t s).1,(Gu t s).2,0)
     else if t.kind=16∨t.kind=17 then if (DR t s).1.kind=0 then Ff n (DR t s).2 else ((DR t s).1,(DR t s).2,0) else CQ t s:=by rw [Ff,ht]
    have hl:=(List.getElem?_eq_some_iff.1 ht).1
    rw [e] at h ⊢
    clear e
    split
    ·rename_i hk
     unfold Gu
     split
     ·exact .still U h1 rfl rfl rfl
     ·split
      ·exact .step U ht rfl rfl (by rw [Mw (.inl hk.1)];rfl)
      ·exact .still U h1 rfl rfl rfl
    ·rename_i hk
     rw [if_neg hk] at h
     split
     ·rename_i hk2
      rw [if_pos hk2] at h
      split
      ·rename_i hz
       rw [if_pos hz] at h
       rw [FC hz] at h ⊢
       have h3:Ps s {s with pos:=s.pos+1,wait:=0} []:=.step U ht rfl rfl (by rw [Mw hk2];rfl)
       exact h3.trans (T6 n {s with pos:=s.pos+1,wait:=0} hN (by show 0≤s.pos+1;omega) (by show s.pos+1≤(s.Ak.length:Int);omega) h)
      ·rename_i hz
       unfold DR at hz ⊢
       split
       ·exact .still U h1 rfl rfl rfl
       ·rename_i e1
        rw [if_neg e1] at hz
        split
        ·exact .step U ht rfl rfl (by rw [Mw hk2];rfl)
        ·rename_i e2;rw [if_neg e2] at hz;exact absurd rfl hz
     ·rename_i hk2
      rw [if_neg hk2] at h
      have ha:BL (lv t)=BL [t]:=by unfold lv;rw [if_pos (hN t (List.mem_of_getElem? ht))]
      unfold CQ at h ⊢
      split
      ·exact .step U ht rfl rfl ha
      ·rename_i e1
       rw [if_neg e1] at h
       split
       ·rename_i e2
        rw [if_pos e2] at h
        split
        ·rename_i e3;rw [if_pos e3] at h;cases h
        ·exact .step U ht rfl rfl ha
       ·exact .step U ht rfl rfl ha
theorem R5 {s:Ae} (h:Hh s=true):0≤s.pos∧s.pos≤s.Ak.length:=by
 unfold Hh at h
 simp only [Bool.and_eq_true,decide_eq_true_eq] at h
 omega
theorem Sa {s:Ae} (hN:∀t ∈ s.Ak,t.kind<18) (h:(Ad s).2.2=0):Ps s (Ad s).2.1 (lv (Ad s).1):=by
 unfold Ad at h ⊢
 cases U:Hh s with
 |false=>rw [U] at h;cases h
 |true=>
  rw [U,if_pos rfl] at h
  rw [if_pos rfl]
  obtain ⟨h0,h1⟩:=R5 U
  exact T6 _ s hN h0 h1 h
theorem QM {t:Tk} (h:Ge t=true):BL (lv t)=[]:=by
 unfold lv
 split
 ·rename_i hk
  unfold Ge at h
  have h:t.kind=15∧(t.text=[123]∨t.text=[125]∨t.text=[59]):=by
   simp only [Bool.or_eq_true,Bool.and_eq_true,beq_iff_eq] at h
   rcases h with h|h
   ·omega
   ·exact ⟨h.1,by rcases h.2 with (h|h)|h<;>simp [h]⟩
  unfold BL DhT Px
  rcases h with ⟨h1,U|U|U⟩<;>simp [h1,U]
 ·rfl
theorem Qf {f:Bool} {l:List Nd}:BE (EK f l)=A9 l:=by unfold EK;rw [BE,if_neg (by decide)]
theorem Ps.words {s s':Ae} {m n:List Tk} (h:Ps s s' m) (e:BL n=BL m):Ps s s' n:=⟨h.tk,h.le,h.ok,e.trans h.eq⟩
theorem A1.ps {l:List Nd} {s s':Ae} (h:A1 l s s'):(∀t ∈ s.Ak,t.kind<18)→Ps s s' (A9 l):=by
 induction h with
 |nil s=>intro _;exact Ps.nil s
 |app _ _ U h2=>
   intro hN
   have k1:=U hN
   rw [EH]
   exact k1.trans (h2 (by rw [k1.tk];exact hN))
 |tok U h2 h3=>
   intro hN
   rw [Fc,RY]
   exact (Sa hN U).words (by unfold lv;rw [if_pos h2])
 |skip U h2=>intro hN;exact (Sa hN U).words (by rw [QM h2];rfl)
 |close U=>
   intro hN
   rename_i s
   unfold DH at U ⊢
   split
   ·rename_i hc
    obtain ⟨h0,U⟩:=R5 hc.1
    exact .still h0 U rfl rfl rfl
   ·rename_i hc;rw [if_neg hc] at U;cases U
 |node U h2 h3 ih=>
   intro hN
   rw [Fc,RZ h2]
   exact ih hN
 |block U h2 h3 ih=>
   intro hN
   rename_i f l s s'
   have k1:=Sa hN U
   rw [Fc,Qf]
   have:=k1.trans (ih (by rw [k1.tk];exact hN))
   refine this.words ?_
   unfold BL
   rw [List.filter_append]
   have e:=QM h2
   unfold BL at e
   rw [e];rfl
theorem Path.mu {s t:Ae} {l:List Tk} (h:Path s l t):Proofs.YtkidoddkbhchkaaGreatDoor.mu t+l.length≤Proofs.YtkidoddkbhchkaaGreatDoor.mu s:=by
 induction h with
 |nil s=>exact Nat.le_refl _
 |cons U h2 _ ih=>rw [List.length_cons];omega
theorem Gg (l:List Tk):(Av l).length=l.length:=by unfold Av;rw [List.length_map]
theorem Vf {l:List Tk} {x:Tk} {own:AO} {st:St} {K:V→St→Prop} (h:own.Bn st) (hb:l.length+1≤1000000000)
 (k:∀U:AO,U.Bn st→K (.slice 4 (Av (l++[x])) U) (U.st st ((l++[x]).length*4))):Ai 4 40 (Av l) own [x.cells] (own.st st (l.length*4)) K:=by
 have:=DZ (sz:=4) (bytes:=40) (es:=Av l) (new:=[x.cells]) (K:=K) h (by rw [Gg];show (l.length+1)*40≤_;omega) (by rw [Gg];show l.length+1<De;simp only [De];omega) rfl (fun U ho=>by
  have:=k U ho
  rw [Gg]
  have e:Av l++[x.cells].map (·.map V.IU)=Av (l++[x]):=by unfold Av;rw [List.map_append];rfl
  rw [e]
  rw [List.length_append] at this
  exact this)
 rw [Gg] at this
 exact this
def aj (st:St) (bo:Nat) (l:List Tk) (own:AO):St:=own.st (st.Ab bo [.slice 4 (Av l) own]) (l.length*4)
theorem Si {own:AO} {st:St} {n b:Nat}:(own.st st n).box b=st.box b:=by cases own<;>rfl
theorem Yb {own:AO} {st:St} {b:Nat} {cs:List V} (hb:st.box b≠none) (h:own.Bn st):own.Bn (st.Ab b cs):=by
 cases own with
 |any=>exact h
 |full=>trivial
 |tok t=>
  have:b≠t:=fun e=>by subst e;exact hb h.1
  exact ⟨by rw [St.Aq this];exact h.1,h.2⟩
theorem dV {own:AO} {st:St} {b:Nat} {cs:List V} (h:own.Bn (st.Ab b cs)):own.Bn st:=by
 cases own with
 |any=>exact h
 |full=>trivial
 |tok t=>exact (Bp h).2
theorem eM {st:St} {bo:Nat} {l:List Tk} {own:AO}:(aj st bo l own).box bo=some [.slice 4 (Av l) own]:=by unfold aj;rw [Si,St.Ah]
theorem jY {st:St} {bo b:Nat} {l:List Tk} {own:AO} (h:bo≠b):(aj st bo l own).box b=st.box b:=by unfold aj;rw [Si,St.Aq h]
theorem jZ {st:St} {bo:Nat} {l l':List Tk} {own U:AO}:(U.st (st.Ab bo [.slice 4 (Av l) own]) (l'.length*4)).Ab bo [.slice 4 (Av l') U]=aj st bo l' U:=by
 rw [Sj,St.set_set];rfl
theorem VX {n:Nd} (h:¬n.kind=1):BE n=A9 n.kids:=by
 cases n with
 |mk a b c d e ks=>rw [BE,if_neg (show ¬a=1 from h)];rfl
theorem VY {n:Nd} (h:n.kind=1):BE n=[⟨n.form,n.text,n.line,n.B7⟩]:=by
 cases n with
 |mk a b c d e ks=>rw [BE,if_pos (show a=1 from h)];rfl
theorem Kl {l:List Nd} {k:Nat} {x:Nd} (h:l[k]? =some x):A9 (l.take (k+1))=A9 (l.take k)++BE x:=by
 rw [List.take_add_one,h,EH]
 show _++A9 [x]=_
 rw [Fc]
theorem MP {l:List Nd} {k:Nat} {x:Nd} (h:l[k]? =some x):(A9 (l.take k)).length+(BE x).length≤(A9 l).length:=by
 have e:l=l.take (k+1)++l.drop (k+1):=(List.take_append_drop _ _).symm
 have:A9 l=A9 (l.take k)++BE x++A9 (l.drop (k+1)):=by
  conv=>lhs;rw [e]
  rw [EH,Kl h]
 rw [this]
 simp only [List.length_append]
 omega
section
variable {R:AM→St→Prop}
attribute [local irreducible] Go.Aw.Ai
theorem Z4:∀(m:Nat) {n:Nd} {st:St} {bo bw:Nat} {l:List Tk} {own:AO} {R:AM→St→Prop},n.size≤m→bo≠bw→st.box bo≠none→st.box bw=some [.func 52 [] [.ptr bo 0,.ptr bw 0]]→own.Bn st→l.length+(BE n).length≤100000000→
 (∀own':AO,own'.Bn st→R (.ret (.Bo [])) (aj st bo (l++BE n) own'))→PC 52 [enc n,.ptr bo 0,.ptr bw 0] (aj st bo l own) R:=by
 intro m
 induction m with
 |zero=>intro n st bo bw l own R hm;cases n;rw [Nd.size] at hm;omega
 |succ m ih=>
  intro n st bo bw l own R hm hne hb hw hg hl h
  refine Aa Ac [] Tryz.func52 rfl (by decide) ?_
  by_cases hk:n.kind=1
  ·rw [VY hk] at h hl
   have hn:l.length+1≤1000000000:=by simp only [List.length_singleton] at hl;omega
   repeat' ((conv=>whnf);first|(refine Bc ?_;intros)|(refine Be ?_ ?_<;>intro _)|refine At eM ?_|refine Vf (st:=st.Ab bo [.slice 4 (Av l) own]) (l:=l) (x:=⟨n.form,n.text,n.line,n.B7⟩) (Yb hb hg) hn (fun U ho1=>?_)|refine At (by rw [Si,St.Ah]) ?_)
   all_goals exact VJ rfl jZ (h U (dV ho1))
  ·rw [VX hk] at h hl
   repeat' ((conv=>whnf);first|(refine Bc ?_;intros)|(refine Be ?_ ?_<;>intro _)|fail)
   refine Jo (α:=Nat×AO) (fun x=>[(24,.int .i64 (x.1:Nat))]) [22,23,1,2] (fun x=>[]) [] (fun x=>aj st bo (l++A9 (n.kids.take x.1)) x.2) (fun x=>x.2.Bn st∧x.1≤n.kids.length) (fun x=>n.kids.length - x.1) (0,own) ⟨hg,Nat.zero_le _⟩ Yl
    (by show St.le (aj st bo (l++A9 (n.kids.take 0)) own) _;rw [List.take_zero,A9,List.append_nil];exact St.le_refl _) ?_
   rintro ⟨k,U⟩ ⟨j1,j2⟩
   dsimp only at j1 j2
   by_cases hlt:k<n.kids.length
   ·obtain ⟨x,hx⟩:∃x,n.kids[(k:Int).toNat]? =some x:=⟨_,List.getElem?_eq_getElem hlt⟩
    have hx':n.kids[k]? =some x:=hx
    have hxs:=EB (List.mem_of_getElem? hx')
    have hle:=MP hx'
    have hll:∀k x,n.kids[k]? =some x→(l++A9 (n.kids.take k)).length+(BE x).length≤100000000:=fun k x e=>by have:=MP e;rw [List.length_append];omega
    have hW:(aj st bo (l++A9 (n.kids.take k)) U).box bw=some [.func 52 [] [.ptr bo 0,.ptr bw 0]]:=by rw [jY hne];exact hw
    repeat' ((conv=>whnf);first|(refine Bc ?_;intros)|(refine Be ?_ ?_<;>intro _)|refine At hW ?_|refine ih (n:=x) (l:=l++A9 (n.kids.take k)) (by omega) hne hb hw j1 (hll k x hx') (fun own2 ho2=>?_)|refine Wq (a:=(k:Int)+1) (by omega) (by omega) ?_)
    all_goals conv=>whnf
    all_goals exact ⟨(k+1,own2),⟨ho2,hlt⟩,Nat.sub_lt_sub_left hlt (Nat.lt_succ_self k),Yl,by
     show St.le (aj st bo (l++A9 (n.kids.take (k+1))) own2) _
     rw [Kl hx',←List.append_assoc]
     exact St.le_refl _⟩
   ·have hk2:k=n.kids.length:=by omega
    repeat' ((conv=>whnf);first|(refine Bc ?_;intros)|(refine Be ?_ ?_<;>intro _)|fail)
    all_goals exact VJ rfl (by rw [hk2,List.take_length]) (h U j1)
theorem dR {l:List Tk} {own:AO}:AM.ret (.slice 4 (Av l) .any)=(AM.ret (.slice 4 (Av l) own)).wk:=rfl
theorem Z5 {n:Nd} {st:St} {bo bw:Nat} {R:AM→St→Prop} (hne:bo≠bw) (hb:st.box bo=some [.slice 4 [] .full]) (hw:st.box bw=some [.func 52 [] [.ptr bo 0,.ptr bw 0]]) (hl:(BE n).length≤100000000)
 (h:∀U:AO,U.Bn st→R (.ret (.Bo [])) (aj st bo (BE n) U)):PC 52 [enc n,.ptr bo 0,.ptr bw 0] st R:=by
 have:=Z4 n.size (n:=n) (st:=st) (bo:=bo) (bw:=bw) (l:=[]) (own:=.full) (R:=R) (Nat.le_refl _) hne (by rw [hb];exact fun e=>by cases e) hw trivial (by show 0+_≤_;omega) h
 rw [show aj st bo [] .full=st from St.LJ hb] at this
 exact this
theorem er {n:Nd} {st:St} (hl:(BE n).length≤100000000) (h:R (.ret (.slice 4 (Av (BE n)) .any)) st):PC 16 [enc n] st R:=by
 refine Aa Ac [3,4] Tryz.func16 rfl (by decide) ?_
 repeat' ((conv=>whnf);first|(refine Bc ?_;intros)|(refine Be ?_ ?_<;>intro _)|refine Ka (fun _=>?_) ?_|refine R9 (fun b f=>?_)|refine At (St.Ah ..) ?_)
 rename_i b1 f1
 have U:b1≠b:=(Bp f).1
 have hfb:st.fresh b:=(Bp (Bp f).2).2
 repeat' ((conv=>whnf);first|(refine Bc ?_;intros)|(refine Be ?_ ?_<;>intro _)|refine Ka (fun _=>?_) ?_|refine Z5 U (by rw [St.Aq U.symm,St.Aq U.symm,St.Ah]) (St.Ah ..) hl (fun own1 ho1=>?_)|refine At eM ?_)
 all_goals refine Ej ?_ dR h
 all_goals exact St.le_trans (St.Am (St.Am (St.Am (St.Am (St.Am (St.le_refl st) f1.1 _) f1.1 _) hfb.1 _) hfb.1 _) f1.1 _) (AO.Bu (Yb (by rw [St.Aq U.symm,St.Aq U.symm,St.Ah];exact fun e=>by cases e) ho1))
end
end Go.Proofs.YtkidoddkbhchkaaGreatDoor
namespace Go.Aw
theorem len_nil {α:Type} {K:Nat→Prop} (k:0<De→K 0):∀m,m=([]:List α).length→m<De→K m:=fun m U h=>by subst U;exact k h
end Go.Aw
namespace Go.Proofs.YtkidoddkbhchkaaGreatDoor
open Go Go.Aw
section
variable {st:St} {R:AM→St→Prop}
attribute [local irreducible] Go.Aw.Ai
theorem Tt {o1 o2:AO} {f:V} (h:R (.ret (.bool true)) st):PC 53 [.slice 6 [] o1,.slice 6 [] o2,f] st R:=by
 refine Aa Ac [] Tryz.func53 rfl (by decide) ?_
 repeat' ((conv=>whnf);first|refine len_nil (fun _=>?_)|(refine Bc ?_;intros)|(refine Be ?_ ?_<;>intro _)|fail)
 refine Mf 17 [15,16] 0 (fun k=>k=0) rfl Yl ?_
 intro k U
 subst U
 repeat' ((conv=>whnf);first|(refine Bc ?_;intros)|(refine Be ?_ ?_<;>intro _)|fail)
 all_goals exact fin h rfl
theorem aM (h:R (.ret (.bool true)) st):PC 17 [enc MS,enc MS] st R:=by
 refine Aa Ac [] Tryz.func17 rfl (by decide) ?_
 repeat' ((conv=>whnf);first|with_reducible refine Wt rfl ?_|with_reducible refine Wi ?_|(refine Bc ?_;intros)|(refine Be ?_ ?_<;>intro _)|refine Tt ?_)
 all_goals exact fin h rfl
theorem Uu {n:Nd} (U:n=MS) (h:R (.ret (.bool true)) st):PC 17 [enc n,.agg C8] st R:=by
 subst U
 exact JV (args':=[enc MS,enc MS]) rfl (aM h)
end
theorem Xd {l:List Tk} {a b:Int} {K:List (List V)→Prop} (h0:0≤a) (h1:a≤b) (h2:b≤l.length) (k:K (Av (Kz l a b))):
 (0≤a∧a≤b∧b≤(Av l).length)∧∀U,U=(((Av l).take b.toNat).drop a.toNat)→K U:=by
 refine ⟨⟨h0,h1,by rw [F2];exact h2⟩,fun U e=>?_⟩
 have:((Av l).take b.toNat).drop a.toNat=Av (Kz l a b):=by simp [Av,Kz,List.map_drop,List.map_take]
 rw [this] at e;subst e;exact k
theorem bF {l:List Tk} {k:Nat} {t:Tk} (h:l[k]? =some t):BL (l.take (k+1))=BL (l.take k)++(if DhT t=true then [t] else []):=by
 rw [List.take_add_one,h]
 unfold BL
 rw [List.filter_append]
 congr 1
 simp only [Option.toList_some,List.filter_cons,List.filter_nil]
theorem gM {l:List Tk} {k:Nat}:(BL (l.take k)).length≤l.length:=by
 unfold BL
 exact Nat.le_trans (List.length_filter_le _ _) (by rw [List.length_take];omega)
section
variable {st:St} {R:AM→St→Prop}
attribute [local irreducible] Go.Aw.Ai
theorem Tw {l:List Tk} {own:AO} (hl:l.length≤100000000) (h:R (.ret (.slice 4 (Av (BL l)) .any)) st):PC 38 [.slice 4 (Av l) own] st R:=by
 refine Aa Ac [] Tryz.func38 rfl (by decide) ?_
 repeat' ((conv=>whnf);first|(refine Bc ?_;intros)|(refine Be ?_ ?_<;>intro _)|refine Ka (fun _=>?_) ?_|fail)
 refine Jo (α:=Nat×AO) (fun x=>[(3,.slice 4 (Av (BL (l.take x.1))) x.2),(4,.int .i64 (x.1:Nat))]) [0] (fun x=>[]) [] (fun x=>x.2.st st ((BL (l.take x.1)).length*4)) (fun x=>x.2.Bn st∧x.1≤l.length) (fun x=>l.length - x.1) (0,.full) ⟨trivial,Nat.zero_le _⟩ Yl (by rw [List.take_zero];exact St.le_refl _) ?_
 rintro ⟨k,w⟩ ⟨j1,j2⟩
 dsimp only at j1 j2
 by_cases U:k<l.length
 ·obtain ⟨t,ht⟩:∃t,l[(k:Int).toNat]? =some t:=⟨_,List.getElem?_eq_getElem U⟩
  have hs:=bF (show l[k]? =some t from ht)
  have hn:(BL (l.take k)).length+1≤1000000000:=by have:=gM (l:=l) (k:=k);omega
  have hcase:(DhT t=true∧¬t.kind=16∧¬t.kind=17∧Px t.kind t.text=true)∨(DhT t=false∧(t.kind=16∨(¬t.kind=16∧t.kind=17)∨(¬t.kind=16∧¬t.kind=17∧Px t.kind t.text=false))):=by
   unfold DhT
   by_cases h1:t.kind=16
   ·right;simp [h1]
   by_cases h2:t.kind=17
   ·right;simp [h2]
   cases h3:Px t.kind t.text<;>simp [h1,h2]
  rcases hcase with ⟨hw,n1,n2,n3⟩|⟨hw,n1|⟨n1,n2⟩|⟨n1,n2,n3⟩⟩
  ·have hcn:∀{st:St} {R:AM→St→Prop},R (.ret (.bool true)) st→PC 81 [.agg [.int .i64 t.kind,.str t.text,.int .i64 t.line,.int .i64 t.B7]] st R:=fun h=>QZ (by rw [n3];exact h)
   rw [hw,if_pos rfl] at hs
   repeat' ((conv=>whnf);first|(refine Bc ?_;intros)|(refine Be ?_ ?_<;>intro _)|refine Ka (fun _=>?_) ?_|refine hcn ?_|refine Vf (l:=BL (l.take k)) (x:=t) j1 hn (fun own1 ho1=>?_)|refine Wq (a:=(k:Int)+1) (by omega) (by omega) ?_)
   all_goals conv=>whnf
   all_goals exact ⟨(k+1,own1),⟨ho1,U⟩,Nat.sub_lt_sub_left U (Nat.lt_succ_self k),by dsimp only;rw [hs];exact Yl,by dsimp only;rw [hs];exact St.le_refl _⟩
  all_goals rw [hw,if_neg (by decide),List.append_nil] at hs
  ·skip
   repeat' ((conv=>whnf);first|(refine Bc ?_;intros)|(refine Be ?_ ?_<;>intro _)|refine Ka (fun _=>?_) ?_|refine Wq (a:=(k:Int)+1) (by omega) (by omega) ?_)
   all_goals conv=>whnf
   all_goals exact ⟨(k+1,w),⟨j1,U⟩,Nat.sub_lt_sub_left U (Nat.lt_succ_self k),by dsimp only;rw [hs];exact Yl,by dsimp only;rw [hs];exact St.le_refl _⟩
  ·skip
   repeat' ((conv=>whnf);first|(refine Bc ?_;intros)|(refine Be ?_ ?_<;>intro _)|refine Ka (fun _=>?_) ?_|refine Wq (a:=(k:Int)+1) (by omega) (by omega) ?_)
   all_goals conv=>whnf
   all_goals exact ⟨(k+1,w),⟨j1,U⟩,Nat.sub_lt_sub_left U (Nat.lt_succ_self k),by dsimp only;rw [hs];exact Yl,by dsimp only;rw [hs];exact St.le_refl _⟩
  ·have hcn:∀{st:St} {R:AM→St→Prop},R (.ret (.bool false)) st→PC 81 [.agg [.int .i64 t.kind,.str t.text,.int .i64 t.line,.int .i64 t.B7]] st R:=fun h=>QZ (by rw [n3];exact h)
   repeat' ((conv=>whnf);first|(refine Bc ?_;intros)|(refine Be ?_ ?_<;>intro _)|refine Ka (fun _=>?_) ?_|refine hcn ?_|refine Wq (a:=(k:Int)+1) (by omega) (by omega) ?_)
   all_goals conv=>whnf
   all_goals exact ⟨(k+1,w),⟨j1,U⟩,Nat.sub_lt_sub_left U (Nat.lt_succ_self k),by dsimp only;rw [hs];exact Yl,by dsimp only;rw [hs];exact St.le_refl _⟩
 ·have hk2:k=l.length:=by omega
  subst hk2
  rw [List.take_length]
  repeat' ((conv=>whnf);first|(refine Bc ?_;intros)|(refine Be ?_ ?_<;>intro _)|refine Ka (fun _=>?_) ?_|fail)
  all_goals exact Ej (AO.Bu j1) rfl h
mutual
theorem Li:∀n:Nd,(BE n).length≤n.size
 | .mk k f t l c ks=>by
   have:=Kk ks
   rw [BE,Nd.size]
   split
   ·rw [List.length_singleton];omega
   ·omega
theorem Kk:∀l:List Nd,(A9 l).length≤C6 l
 |[]=>Nat.le_refl _
 |n::r=>by
  have:=Li n
  have:=Kk r
  rw [A9,C6,List.length_append];omega
end
theorem ZC (d:Nat):Dv (Ei d):=K8 (OC (Je _) (OE _))
theorem Zr {s s':Ae} {deep e:Int} {n:Nd} {A:Rd Nd} (h:Bz s deep (EA A s)=(n,s',e)) (he:¬e=0):n=MS:=by
 unfold Bz at h
 split at h
 ·cases h;rfl
 ·unfold EA at h
  cases U:A.run s with
  |inl p=>rw [U] at h;cases h;rfl
  |inr p=>rw [U] at h;cases h;exact absurd rfl he
theorem Qx {s s':Ae} {deep:Int} {n:Nd} {A:Rd Nd} (h:Bz s deep (EA A s)=(n,s',0)):A.run s=.inr (n,s'):=by
 unfold Bz at h
 split at h
 ·cases h
 ·unfold EA at h
  cases U:A.run s with
  |inl p=>rw [U] at h;obtain ⟨⟨x,hx⟩,t⟩:=p;cases h;exact absurd rfl hx
  |inr p=>rw [U] at h;obtain ⟨a,b⟩:=p;cases h;rfl
theorem Zw {s s':Ae} {n:Nd} {d:Nat} (h:(Ei d).run s=.inr (n,s')):0≤s.pos∧s.pos≤s.Ak.length:=by
 apply R5
 cases hm:Hh s with
 |true=>rfl
 |false=>
  have hn:Ad s=(YZ,En,1):=by unfold Ad;rw [hm];rfl
  have h:(if ((Ad s).1.kind==18)=true then Rd.seq HR fun _=>.seq (.loop (F7 Fz (cN d) false) []) fun l=>.ret (EK false l)
   else Rd.seq (Cd 15 [123]) fun _=>.seq (.loop (F7 Fz (cN d) true) []) fun l=>.ret (EK true l):Rd Nd).run s=.inr (n,s'):=h
  rw [hn,if_neg (by decide)] at h
  obtain ⟨a,s1,U,_⟩:=BG h
  have U:(if Ba s 15 [123]=true then A7 else P2).run s=.inr (a,s1):=U
  rw [show Ba s 15 [123]=false by unfold Ba;rw [hn];rfl,if_neg (by decide)] at U
  cases U
theorem RD {s:Ae} {deep:Int} (h:∀st',R (.ret (.bool true)) st'):PC 11 [CN s,.int .i64 deep] st R:=by
 refine Aa Ac [] Tryz.func11 rfl (by decide) ?_
 by_cases hs:s.Ak.length≤1000∧s.CG.length≤1000
 ·have hm:=pJ hs
  have hm4:mu s≤5100:=by unfold mu;omega
  have hv:true=(decide (s.Ak.length≤1000)&&decide (s.CG.length≤1000)):=by simp [hs]
  repeat' ((conv=>whnf);first|exact Cq|(refine Bc ?_;intros)|(refine Cr ?_ ?_ ?_;rotate_left)|(refine Be ?_ ?_<;>intro _)|refine Hx hv ?_|refine Gw (fun st1 hle1=>?_)|with_reducible refine WF ?_)
  refine Jo (α:=Nat) (fun k=>[(6,.int .i64 (k:Nat))]) [1,2,4,5] (fun k=>[]) [0] (fun _=>st1) (fun k=>k≤s.Ak.length∧∀t ∈ s.Ak.take k,t.kind<18) (fun k=>s.Ak.length - k) 0 ⟨Nat.zero_le _,by rw [List.take_zero];intro t ht;cases ht⟩ Yl (St.le_refl _) ?_
  rintro k ⟨j1,j2⟩
  by_cases U:k<s.Ak.length
  ·obtain ⟨t,ht⟩:∃t,s.Ak[(k:Int).toNat]? =some t:=⟨_,List.getElem?_eq_getElem U⟩
   by_cases hk:t.kind<18
   ·have hge:¬t.kind≥18:=by omega
    have j3:∀u ∈ s.Ak.take (k+1),u.kind<18:=by
     rw [List.take_add_one,show s.Ak[k]? =some t from ht]
     intro u hu
     rcases List.mem_append.1 hu with hu|hu
     ·exact j2 u hu
     ·simp only [Option.toList_some,List.mem_singleton] at hu;subst hu;exact hk
    repeat' ((conv=>whnf);first|exact Cq|(refine Bc ?_;intros)|(refine Cr ?_ ?_ ?_;rotate_left)|(refine Be ?_ ?_<;>intro _)|refine Wq (a:=(k:Int)+1) (by omega) (by omega) ?_|with_reducible refine WF ?_)
    all_goals conv=>whnf
    all_goals exact ⟨k+1,⟨U,j3⟩,Nat.sub_lt_sub_left U (Nat.lt_succ_self k),Yl,St.le_refl _⟩
   ·have hge:t.kind≥18:=by omega
    repeat' ((conv=>whnf);first|exact Cq|(refine Bc ?_;intros)|(refine Cr ?_ ?_ ?_;rotate_left)|(refine Be ?_ ?_<;>intro _)|with_reducible refine WF ?_)
    all_goals exact fin (h _) rfl
  ·have hk2:k=s.Ak.length:=by omega
   have hN:∀t ∈ s.Ak,t.kind<18:=by
    rw [hk2,List.take_length] at j2;exact j2
   generalize hq:Bz s deep (EA (Ei (DK deep)) s)=q
   obtain ⟨n,t,e⟩:=q
   by_cases he:e=0
   ·subst he
    have hr:=Qx hq
    have hR:=(ZC _).at hr
    have hp:=hR.ps hN
    rw [Fc] at hp
    have hpos:=Zw hr
    have hpe:t.pos≤s.Ak.length:=by
     rcases hp.ok with e|e
     ·rw [e];exact hpos.2
     ·exact e.2
    have hle:=hp.le
    have hl:(BE n).length≤100000000:=by
     have:=hR.lW
     have:=Li n
     omega
    have hc:(Kz s.Ak s.pos t.pos).length≤100000000:=by unfold Kz;rw [List.length_drop,List.length_take];omega
    have e1:¬s.pos<0:=by omega
    have e2:¬t.pos<s.pos:=by omega
    have e3:¬t.pos>(s.Ak.length:Int):=by omega
    have hw2:∀{st:St} {R:AM→St→Prop} {own:AO},R (.ret (.slice 4 (Av (BL (BE n))) .any)) st→PC 38 [.slice 4 (Av (Kz s.Ak s.pos t.pos)) own] st R:=fun h=>Tw hc (by rw [←hp.eq];exact h)
    repeat' ((conv=>whnf);first|exact Cq|(refine Bc ?_;intros)|(refine Cr ?_ ?_ ?_;rotate_left)|(refine Be ?_ ?_<;>intro _)|refine HW hm hq ?_|refine er hl ?_|refine Tw hl ?_|refine Xd (by omega) (by omega) (by omega) ?_|refine hw2 ?_|refine W6 ?_|refine Ar [(0,true),(1,true),(2,true),(5,true),(6,true),(7,true),(8,true),(9,true),(10,true),(11,true),(3,false),(4,false),(12,false),(13,false),(14,true),(15,true)] [] (by decide +kernel) ?_|with_reducible refine WF ?_)
    all_goals exact fin (h _) rfl
   ·have hn:n=MS:=Zr hq he
    repeat' ((conv=>whnf);first|exact Cq|(refine Bc ?_;intros)|(refine Cr ?_ ?_ ?_;rotate_left)|(refine Be ?_ ?_<;>intro _)|refine HW hm hq ?_|refine Uu hn ?_|with_reducible refine WF ?_)
    all_goals exact fin (h _) rfl
 ·have hv:false=(decide (s.Ak.length≤1000)&&decide (s.CG.length≤1000)):=by
   symm;simp only [Bool.and_eq_false_iff,decide_eq_false_iff_not];omega
  repeat' ((conv=>whnf);first|exact Cq|(refine Bc ?_;intros)|(refine Cr ?_ ?_ ?_;rotate_left)|(refine Be ?_ ?_<;>intro _)|refine Hx hv ?_|refine Gw (fun st1 hle1=>?_)|with_reducible refine WF ?_)
  all_goals exact fin (h _) rfl
end
def gY (st m:St) (nv:V) (l:List Nt):Prop:=
 (nv=.slice 5 [] .full∧l=[])∨∃b cap rest,nv=.F8 5 b l.length cap∧m.box b=some ((Hw l).flatten++rest)∧((Hw l).flatten++rest).length=cap*5∧st.box b=none∧l≠[]
structure RW where
 i:Nat
 x:Lx
 wait:Bool
 w1:AO
 nv:V
 m:St
def RW.Bn (s:List UInt8) (st:St) (y:RW):Prop:=
 gY st y.m y.nv y.x.notes∧BH st y.m y.w1 (y.x.Ak.length*4) .full 0∧Bv s y.i∧0≤y.x.Dd∧y.x.Dd≤y.i∧y.x.Ak.length≤y.i∧y.x.notes.length≤y.i∧(y.wait=true→y.x.notes≠[])
theorem eu (a b:List (List UInt8)):Lib.lens (a++b)=Lib.lens a+Lib.lens b:=by simp [Lib.lens]
theorem eB {s:List UInt8} {p:Nat} {x y:Lx} (hv:Vd s) (hp:Bv s p) (h:x.Ak.length≤p∧Lib.lens (x.Ak.map Tk.text)≤p) (e:Gk s p x=.inr y):y.Ak.length≤s.length∧Lib.lens (y.Ak.map Tk.text)≤s.length:=by
 have hpl:=hp.le
 fun_induction Gk s p x with
 |case1 p x U h1=>cases e
 |case2 p x U h1 h2 h3 ih=>
  obtain ⟨q,e1,e2,e3,e4⟩:=Ub hv hp (by omega) h2
  have eq:(Ct s p).1.toNat=q:=by omega
  rw [eq] at ih e
  have hb:=H3 e3
  exact ih (e4.iz hv) ⟨by show x.Ak.length≤_;omega,by show Lib.lens (x.Ak.map Tk.text)≤_;omega⟩ e hb.2
 |case3 p x U h1 h2 h3=>injection e with e;subst e;omega
 |case4 p x U h1 h2 h3=>cases e
 |case5 p x U h1 h2 h3 h4 ih=>
  obtain ⟨e0,q,e1,e2,e3,e4⟩:=TV hv hp (by omega)
  have eq:(Cc s p).2.1.toNat=q:=by omega
  rw [eq] at ih e
  have hb:=H3 e3
  have hpc:(AX s p q).length=q - p:=HJ (by omega) e3
  have l1:(KL s p q (Cc s p).1 x).Ak.length=x.Ak.length+1:=by simp [KL]
  have l2:Lib.lens ((KL s p q (Cc s p).1 x).Ak.map Tk.text)=Lib.lens (x.Ak.map Tk.text)+(q - p):=by
   show Lib.lens ((x.Ak++[_]).map Tk.text)=_
   rw [List.map_append,eu]
   simp [Lib.lens,hpc]
  exact ih (e4.iz hv) ⟨by omega,by omega⟩ e hb.2
 |case6 p x U h1 h2 h3 h4=>injection e with e;subst e;omega
 |case7 p x U=>injection e with e;subst e;omega
theorem ew {s:List UInt8} {y:Lx} (e:Fs s=.inr y):y.Ak.length≤s.length∧Lib.lens (y.Ak.map Tk.text)≤s.length:=by
 have ok:=jT e
 unfold Fs at e
 split at e
 ·cases e
 ·split at e
  ·cases e
  ·split at e
   ·cases e
   ·exact eB ok.2.1 (Bv.iz ok.2.1 (.zero s)) ⟨Nat.zero_le _,Nat.zero_le _⟩ e
theorem Z7 {s:List UInt8} {p:Nat} {x:Lx} {i e:Int} (h:Gk s p x=.inl (i,e)):e≠0:=by
 fun_induction Gk s p x with
 |case1 p x U h1=>injection h with h;injection h with h h';omega
 |case2 p x U h1 h2 h3 ih=>exact ih h
 |case3 p x U h1 h2 h3=>cases h
 |case4 p x U h1 h2 h3=>injection h with h;injection h with h h';omega
 |case5 p x U h1 h2 h3 h4 ih=>exact ih h
 |case6 p x U h1 h2 h3 h4=>cases h
 |case7 p x U=>cases h
theorem ev {s:List UInt8} {i e:Int} (h:Fs s=.inl (i,e)):e≠0:=by
 unfold Fs at h
 split at h
 ·injection h with h;injection h with h h';omega
 ·split at h
  ·rename_i U
   injection h with h
   rw [h] at U;exact U
  ·split at h
   ·injection h with h;injection h with h h';omega
   ·exact Z7 h
section
variable {st:St} {R:AM→St→Prop}
theorem oJ {s:List UInt8} {i e:Int} (hs:Fs s=.inl (i,e)) (h:∀st',st.le st'→R (.ret (.Bo [.slice 4 [] .full,.slice 5 [] .full,.int .i64 i,.int .i64 e])) st'):PC 13 [.str s] st R:=by
 refine eD (fun i' e' U=>?_) (fun i' e' st' hle U=>?_) (fun x w1 w2 st' U=>?_)
 ·rw [hs] at U;injection U with U;injection U with e1 e2;subst e1;subst e2;exact h st (St.le_refl _)
 ·rw [hs] at U;injection U with U;injection U with e1 e2;subst e1;subst e2;exact h st' hle
 ·rw [hs] at U;cases U
theorem TT {s:List UInt8} {x:Lx} (hs:Fs s=.inr x) (h:∀w1 w2 st',st.le st'→R (.ret (.Bo [.slice 4 (Av x.Ak) w1,.slice 5 (Hw x.notes) w2,.int .i64 0,.int .i64 0])) st'):PC 13 [.str s] st R:=by
 refine eD (fun i' e' U=>?_) (fun i' e' st' hle U=>?_) (fun x w1 w2 st' U hle=>?_)
 ·rw [hs] at U;cases U
 ·rw [hs] at U;cases U
 ·rw [hs] at U;injection U with U;subst U;exact h w1 w2 st' hle
end
theorem Dq (l:List Tk):(Av l).length=l.length:=by unfold Av;rw [List.length_map]
theorem ie {l m:List Tk} {own:AO} {st:St} {K:V→St→Prop} (h:own.Bn st) (hb:l.length+m.length≤1000000000)
 (k:∀U:AO,U.Bn st→K (.slice 4 (Av (l++m)) U) (U.st st ((l++m).length*4))):Ai 4 40 (Av l) own (Av m) (own.st st (l.length*4)) K:=by
 have hw:(Av m).map (·.map V.IU)=Av m:=by
  unfold Av
  rw [List.map_map]
  exact List.map_congr_left fun x _=>rfl
 have hsc:((Av m).all fun v=>v.all V.sc)=true:=by
  unfold Av
  rw [List.all_map,List.all_eq_true]
  intro x _;rfl
 have:=DZ (sz:=4) (bytes:=40) (es:=Av l) (new:=Av m) (K:=K) h (by rw [Dq,Dq];omega) (by rw [Dq,Dq];simp only [De];omega) hsc (fun U ho=>by
  have:=k U ho
  rw [Dq,Dq,hw,show Av l++Av m=Av (l++m) by unfold Av;rw [List.map_append],←List.length_append]
  exact this)
 rw [Dq] at this
 exact this
structure Tst0 (p:Tk→Bool):Prop where
 e:p ⟨21,[],0,0⟩=false
 z:p YZ=false
 k:∀a b:Tk,a.kind=b.kind→a.text=b.text→p a=p b
structure U8 (p:Tk→Bool):Prop extends Tst0 p where
 c:p ⟨15,[41],0,0⟩=false
structure gZ (p:Tk→Bool):Prop extends Tst0 p where
 b1:p ⟨15,[123],0,0⟩=false
 b2:p ⟨15,[125],0,0⟩=false
theorem IH {k:Int} {x:List UInt8} (h:k≠0∧k≠21):Tst0 (fun t=>t.kind==k&&t.text==x):=
 ⟨by show ((21:Int)==k&&_)=false;rw [beq_eq_false_iff_ne.2 (fun e=>h.2 e.symm)];rfl,by show ((0:Int)==k&&_)=false;rw [beq_eq_false_iff_ne.2 (fun e=>h.1 e.symm)];rfl,fun a b U h2=>by rw [U,h2]⟩
theorem gH {k:Int} {x:List UInt8} (h:k≠0∧k≠21) (hc:¬(k=15∧x=[41])):U8 (fun t=>t.kind==k&&t.text==x):=
 ⟨IH h,by
   by_cases e:k=15
   ·subst e
    show ((15:Int)==15&&([41]:List UInt8)==x)=false
    rw [beq_eq_false_iff_ne.2 (fun e=>hc ⟨rfl,e.symm⟩),Bool.and_false]
   ·show ((15:Int)==k&&_)=false
    rw [beq_eq_false_iff_ne.2 (fun f=>e f.symm)];rfl⟩
theorem kY {k:Int} {x:List UInt8} (h:k≠0∧k≠21) (hb:¬(k=15∧(x=[123]∨x=[125]))):gZ (fun t=>t.kind==k&&t.text==x):=
 ⟨IH h,by
   by_cases e:k=15
   ·subst e
    show ((15:Int)==15&&([123]:List UInt8)==x)=false
    rw [beq_eq_false_iff_ne.2 (fun e=>hb ⟨rfl,.inl e.symm⟩),Bool.and_false]
   ·show ((15:Int)==k&&_)=false
    rw [beq_eq_false_iff_ne.2 (fun f=>e f.symm)];rfl,by
   by_cases e:k=15
   ·subst e
    show ((15:Int)==15&&([125]:List UInt8)==x)=false
    rw [beq_eq_false_iff_ne.2 (fun e=>hb ⟨rfl,.inr e.symm⟩),Bool.and_false]
   ·show ((15:Int)==k&&_)=false
    rw [beq_eq_false_iff_ne.2 (fun f=>e f.symm)];rfl⟩
theorem M9:gZ BP:=⟨⟨rfl,rfl,fun a b U h2=>by unfold BP;rw [U,h2]⟩,rfl,rfl⟩
theorem PV:U8 BP:=⟨⟨rfl,rfl,fun a b U h2=>by unfold BP;rw [U,h2]⟩,rfl⟩
inductive Fp (T:Nd→Nd→Prop):List Nd→List Nd→Prop where
 |nil:Fp T [] []
 |cons {a b:Nd} {l m:List Nd}:T a b→Fp T l m→Fp T (a::l) (b::m)
theorem Fp.one {T:Nd→Nd→Prop} {a b:Nd} (h:T a b):Fp T [a] [b]:=.cons h .nil
theorem Fp.app {T:Nd→Nd→Prop} {l m U m':List Nd} (h:Fp T l m) (k:Fp T U m'):Fp T (l++U) (m++m'):=by
 induction h with
 |nil=>exact k
 |cons h1 _ ih=>exact .cons h1 ih
theorem Fp.len {T:Nd→Nd→Prop} {l m:List Nd} (h:Fp T l m):l.length=m.length:=by
 induction h with
 |nil=>rfl
 |cons _ _ U=>rw [List.length_cons,List.length_cons,U]
structure Sm where
 R:Ae→Ae→Prop
 T:Nd→Nd→Prop
 Out:Ae→Prop
 o6:Ae→Prop
 out:∀{s s':Ae},Out s→mu s'≤mu s→Out s'
 De:∀{s s':Ae},o6 s→mu s'<mu s→Out s'
 yes:∀{s t:Ae} {p:Tk→Bool},R s t→gZ p→p (Ad s).1=true→(Ad s).2.2=0→o6 s∨(p (Ad t).1=true∧(Ad t).2.2=0∧R (Ad s).2.1 (Ad t).2.1∧T (AJ (Ad s).1) (AJ (Ad t).1))
 no:∀{s t:Ae} {p:Tk→Bool},R s t→U8 p→p (Ad s).1=false→p (Ad t).1=false
 pH:∀{s t:Ae},R s t→Ba s 15 [41]=false→Ba t 15 [41]=false∨∀p,U8 p→p (Ad s).1=false
 mu:∀{s t s' t':Ae},R s t→R s' t'→Proofs.YtkidoddkbhchkaaGreatDoor.mu s'<Proofs.YtkidoddkbhchkaaGreatDoor.mu s→Proofs.YtkidoddkbhchkaaGreatDoor.mu t'<Proofs.YtkidoddkbhchkaaGreatDoor.mu t
 node:∀{k:Int} {l m:List Nd},Fp T l m→T (AD k l) (AD k m)
variable (S:Sm)
def ER {α:Type} (T:α→α→Prop) (q q':Sum (Int×Ae) (α×Ae)):Prop:=∀v s1,q=.inr (v,s1)→S.Out s1∨∃w U,q'=.inr (w,U)∧T v w∧S.R s1 U
def U1 (A:Ae→Rs):Prop:=∀s t,S.R s t→ER S S.T (A s) (A t)
variable {S}
theorem Sm.is {s t:Ae} {k:Int} {x:List UInt8} (hr:S.R s t) (U:k≠0∧k≠21) (hb:¬(k=15∧(x=[123]∨x=[125]))) (h:Ba s k x=true):S.o6 s∨(Ba t k x=true∧S.R (Ad s).2.1 (Ad t).2.1∧S.T (AJ (Ad s).1) (AJ (Ad t).1)):=by
 rcases S.yes (p:=fun t=>t.kind==k&&t.text==x) hr (kY U hb) h (GC h U.1) with h|⟨h1,_,h3,h4⟩
 ·exact .inl h
 ·exact .inr ⟨h1,h3,h4⟩
theorem Sm.VT {s t:Ae} {k:Int} {x:List UInt8} (hr:S.R s t) (U:k≠0∧k≠21) (hc:¬(k=15∧x=[41])) (h:¬Ba s k x=true):¬Ba t k x=true:=by
 have:=S.no (p:=fun t=>t.kind==k&&t.text==x) hr (gH U hc) (show Ba s k x=false from Bool.eq_false_iff.2 h)
 show ¬(((Ad t).1.kind==k&&(Ad t).1.text==x)=true)
 rw [this];decide
section
variable {A Y:Ae→Rs}
theorem kP (hA:U1 S A) (l:List Nd) (s:Ae):∀m t,Fp S.T l m→S.R s t→ER S (Fp S.T) (EU A l s) (EU A m t):=by
 fun_induction EU A l s with
 |case1 l s h1 e1 h2=>intro m t hl U v s1 h;cases h
 |case2 l s h1 p h2 h3 ih=>
  intro m t hl U v s1 h
  have hm:=Sv _ _ _ _ h
  rcases S.yes U M9 h1 (Ds (J6 h1).1) with ho|⟨y1,y2,y3,y4⟩
  ·exact .inl (S.out (S.De ho h3) hm)
  ·rcases hA s t U p.1 p.2 h2 with ho|⟨w,t1,e,ht,hr1⟩
   ·exact .inl (S.out ho hm)
   ·rw [Su (A:=A) (n:=w) (s':=t1) y1 e (S.mu U hr1 h3)]
    exact ih (m++[w]) t1 (hl.app (.one ht)) hr1 v s1 h
 |case3 l s h1 p h2 h3=>intro m t hl U v s1 h;cases h
 |case4 l s h1=>
  intro m t hl U v s1 h
  cases h
  exact .inr ⟨m,t,by rw [EU,if_neg (by rw [S.no U PV (by simpa using h1)];decide)],hl,U⟩
theorem Xe (hA:U1 S A):U1 S (Ft A):=fun s t hr v s1 h=>by
 unfold Ft at h
 split at h
 ·cases h
 ·rename_i p hp
  split at h
  ·cases h
  ·rename_i q hq
   have hm:=Sv _ _ _ _ hq
   have hs:s1=q.2:=by split at h<;>(cases h;rfl)
   rcases hA s t hr p.1 p.2 hp with ho|⟨w,t1,e,ht,hr1⟩
   ·exact .inl (S.out ho (by rw [hs];exact hm))
   ·rcases kP hA [p.1] p.2 [w] t1 (.one ht) hr1 q.1 q.2 hq with ho|⟨m,t2,e2,hl,U⟩
    ·exact .inl (hs ▸ ho)
    ·right
     have hlen:=hl.len
     unfold Ft
     rw [e]
     dsimp only
     rw [e2]
     dsimp only
     split at h
     ·cases h;rw [if_pos (by omega)];exact ⟨w,t2,rfl,ht,U⟩
     ·cases h;rw [if_neg (by omega)];exact ⟨_,t2,rfl,S.node hl,U⟩
theorem kN (hA:U1 S A) (l:List Nd) (s:Ae):∀m t,Fp S.T l m→S.R s t→ER S (Fp S.T) (E5 A l s) (E5 A m t):=by
 fun_induction E5 A l s with
 |case1 l s h1 e1 h2=>intro m t hl U v s1 h;cases h
 |case2 l s h1 p h2 h3 ih=>
  intro m t hl U v s1 h
  have hm:=XC _ _ _ _ h
  rcases Sm.is U (by decide) (by decide) h1 with ho|⟨y1,y3,y4⟩
  ·exact .inl (S.out (S.De ho h3) hm)
  ·rcases Xe hA _ _ y3 p.1 p.2 h2 with ho|⟨w,t1,e,ht,hr1⟩
   ·exact .inl (S.out ho hm)
   ·rw [Rh (A:=A) (n:=w) (s':=t1) y1 e (S.mu U hr1 h3)]
    exact ih _ t1 (hl.app (.cons y4 (.one ht))) hr1 v s1 h
 |case3 l s h1 p h2 h3=>intro m t hl U v s1 h;cases h
 |case4 l s h1=>
  intro m t hl U v s1 h
  cases h
  exact .inr ⟨m,t,by rw [E5,if_neg (Sm.VT U (by decide) (by decide) h1)],hl,U⟩
theorem Q2 (hA:U1 S A) {n n':Nd} (hn:S.T n n') {s t:Ae} (hr:S.R s t):ER S S.T (Cw A n s) (Cw A n' t):=fun v s1 h=>by
 unfold Cw at h
 split at h
 ·cases h
 ·rename_i q hq
  have hs:s1=q.2:=by split at h<;>(cases h;rfl)
  rcases kN hA [n] s [n'] t (.one hn) hr q.1 q.2 hq with ho|⟨m,t2,e2,hl,U⟩
  ·exact .inl (hs ▸ ho)
  ·right
   have hlen:=hl.len
   unfold Cw
   rw [e2]
   dsimp only
   split at h
   ·cases h;rw [if_pos (by omega)];exact ⟨n',t2,rfl,hn,U⟩
   ·cases h;rw [if_neg (by omega)];exact ⟨_,t2,rfl,S.node hl,U⟩
theorem UC (hA:U1 S A):U1 S (Dg A):=fun s t hr v s1 h=>by
 unfold Dg at h
 split at h
 ·cases h
 ·rename_i p hp
  have hm:=JI h
  rcases Xe hA s t hr p.1 p.2 hp with ho|⟨w,t1,e,ht,U⟩
  ·exact .inl (S.out ho hm)
  ·unfold Dg
   rw [e]
   exact Q2 hA ht U v s1 h
theorem kO (hF:A6 A) (hA:U1 S A):U1 S (Eg A):=fun s t hr v s1 h=>by
 unfold Eg at h
 split at h
 ·cases h
 ·rename_i p hp
  rcases Xe hA s t hr p.1 p.2 hp with ho|⟨w,t1,e,ht,U⟩
  ·left
   refine S.out ho ?_
   split at h
   ·rename_i h1
    have:=CJ h1 (by decide) (by decide)
    split at h
    ·cases h
    ·rename_i q hq
     have:=GV hF _ _ _ hq
     cases h
     omega
   ·exact JI h
  ·unfold Eg
   rw [e]
   dsimp only
   split at h
   ·rename_i h1
    have:=CJ h1 (by decide) (by decide)
    split at h
    ·cases h
    ·rename_i q hq
     have:=GV hF _ _ _ hq
     rcases Sm.is U (by decide) (by decide) h1 with ho|⟨y1,y3,y4⟩
     ·cases h;exact .inl (S.De ho (by omega))
     ·rcases UC hA _ _ y3 q.1 q.2 hq with ho|⟨w2,t2,e2,ht2,hr2⟩
      ·cases h;exact .inl ho
      ·cases h
       rw [if_pos y1,e2]
       exact .inr ⟨_,t2,rfl,S.node (.cons ht (.cons y4 (.one ht2))),hr2⟩
   ·rename_i h1
    rw [if_neg (Sm.VT U (by decide) (by decide) h1)]
    exact Q2 hA ht U v s1 h
theorem aP (hA:U1 S A) (l:List Nd) (s:Ae):∀m t,Fp S.T l m→S.R s t→ER S (Fp S.T) (BT A l s) (BT A m t):=by
 fun_induction BT A l s with
 |case1 l s h1 e1 h2=>intro m t hl U v s1 h;cases h
 |case2 l s h1 p h2 h3 ih=>
  intro m t hl U v s1 h
  have hm:=HU _ _ _ _ h
  rcases Sm.is U (by decide) (by decide) h1 with ho|⟨y1,y3,y4⟩
  ·exact .inl (S.out (S.De ho h3) hm)
  ·rcases hA _ _ y3 p.1 p.2 h2 with ho|⟨w,t1,e,ht,hr1⟩
   ·exact .inl (S.out ho hm)
   ·rw [Mu (Y:=A) (n:=w) (s':=t1) y1 e (S.mu U hr1 h3)]
    exact ih _ t1 (hl.app (.cons y4 (.one ht))) hr1 v s1 h
 |case3 l s h1 p h2 h3=>intro m t hl U v s1 h;cases h
 |case4 l s h1=>
  intro m t hl U v s1 h
  cases h
  exact .inr ⟨m,t,by rw [BT,if_neg (Sm.VT U (by decide) (by decide) h1)],hl,U⟩
theorem gj (l:List Nd) (s:Ae):∀m t,Fp S.T l m→S.R s t→S.Out (B2 l s).2∨(Fp S.T (B2 l s).1 (B2 m t).1∧S.R (B2 l s).2 (B2 m t).2):=by
 fun_induction B2 l s with
 |case1 l s U h2 ih=>
  intro m t hl hr
  have hm:=JM (l++[AJ (Ad s).1]) (Ad s).2.1
  rcases Sm.is hr (by decide) (by decide) U with ho|⟨y1,y3,y4⟩
  ·exact .inl (S.out (S.De ho h2) hm)
  ·rw [show B2 m t=B2 (m++[AJ (Ad t).1]) (Ad t).2.1 by rw [B2,if_pos y1,if_pos (S.mu hr y3 h2)]]
   exact ih _ _ (hl.app (.one y4)) y3
 |case2 l s U h2=>exact absurd (CJ U (by decide) (by decide)) h2
 |case3 l s U=>
  intro m t hl hr
  rw [show B2 m t=(m,t) by rw [B2,if_neg (Sm.VT hr (by decide) (by decide) U)]]
  exact .inr ⟨hl,hr⟩
theorem PF {k:Int} {l m:List Nd} {s t:Ae} {x:List UInt8} (hx:x≠[123]∧x≠[125]) (hl:Fp S.T l m) (hr:S.R s t):ER S S.T (GP k l s x) (GP k m t x):=fun v s1 h=>by
 have hm:=DN h
 unfold GP JE at h
 by_cases U:Ba s 15 x=true
 ·rw [if_pos U,Gn U (by decide)] at h
  cases h
  rcases Sm.is hr (by decide) (fun e=>e.2.elim hx.1 hx.2) U with ho|⟨y1,y3,y4⟩
  ·exact .inl (S.De ho hm)
  ·right
   unfold GP JE
   rw [if_pos y1,Gn y1 (by decide)]
   exact ⟨_,_,rfl,S.node (hl.app (.one y4)),y3⟩
 ·rw [if_neg U] at h
  cases h
theorem Sz {s t:Ae} (hr:S.R s t) (U:BP (Ad s).1=true):ER S S.T (C7 s) (C7 t):=fun v s1 h=>by
 have hm:=J7 U h
 have hz:=Ds (J6 U).1
 rcases S.yes hr M9 U hz with ho|⟨y1,y2,y3,y4⟩
 ·exact .inl (S.De ho hm)
 ·unfold C7 at h ⊢
  rw [if_pos hz] at h
  rw [if_pos y2]
  cases h
  exact .inr ⟨_,_,rfl,y4,y3⟩
def LO (Y:Ae→Rs):Prop:=∀s n s',Y s=.inr (n,s')→BP (Ad s).1=true
theorem gk (hF:A6 Y) (hB:LO Y) (hY:U1 S Y) {s t:Ae} (hr:S.R s t) (hs:BP (Ad s).1=true):ER S S.T (DV Y s) (DV Y t):=fun v s1 h=>by
 have hm:=Uo hF hs h
 unfold DV at h
 split at h
 ·cases h
 ·rename_i p hp
  rcases Sz hr hs p.1 p.2 hp with ho|⟨w,t1,e,ht,U⟩
  ·left
   refine S.out ho ?_
   split at h
   ·rename_i h1;have:=CJ h1 (by decide) (by decide);have:=DN h;omega
   split at h
   ·have:=DN h;omega
   split at h
   ·have:=DN h;have:=JM [p.1] p.2;omega
   split at h
   ·cases h
   ·rename_i q hq
    have:=hF _ _ _ hq
    split at h
    ·cases h
    ·rename_i r hr
     have:=HU _ _ _ _ hr
     have:=DN h
     omega
  ·unfold DV
   rw [e]
   dsimp only
   by_cases h1:Ba p.2 10 [45,62]=true
   ·rw [if_pos h1] at h
    have:=CJ h1 (by decide) (by decide)
    rcases Sm.is U (by decide) (by decide) h1 with ho|⟨y1,y3,y4⟩
    ·have:=DN h;exact .inl (S.De ho (by omega))
    ·rw [if_pos y1]
     exact PF (by decide) (.cons ht (.one y4)) y3 v s1 h
   rw [if_neg h1] at h
   rw [if_neg (Sm.VT U (by decide) (by decide) h1)]
   by_cases h2:Ba p.2 15 [41]=true
   ·rw [if_pos h2] at h
    rcases Sm.is U (by decide) (by decide) h2 with ho|⟨y1,y3,y4⟩
    ·have:=DN h;exact .inl (S.De ho (by omega))
    ·rw [if_pos y1]
     exact PF (by decide) (.one ht) U v s1 h
   rw [if_neg h2] at h
   by_cases h3:Ba p.2 15 [44]=true
   ·rw [if_pos h3] at h
    rcases Sm.is U (by decide) (by decide) h3 with ho|⟨y1,y3,y4⟩
    ·have:=DN h;have:=JM [p.1] p.2;exact .inl (S.De ho (by omega))
    ·have hno:¬Ba t1 15 [41]=true:=fun e=>by
      unfold Ba at e y1
      simp only [Bool.and_eq_true,beq_iff_eq] at e y1
      rw [e.2] at y1
      exact absurd y1.2 (by decide)
     rw [if_neg hno,if_pos y1]
     rcases gj [p.1] p.2 [w] t1 (.one ht) U with ho|⟨hl,hr2⟩
     ·have:=DN h;exact .inl (S.out ho (by omega))
     ·exact PF (by decide) hl hr2 v s1 h
   rw [if_neg h3] at h
   split at h
   ·cases h
   ·rename_i q hq
    have hb:=hB _ _ _ hq
    have hf:=hF _ _ _ hq
    have hno:¬Ba t1 15 [41]=true:=fun e=>by
     rcases S.pH U (by simpa using h2) with h4|h4
     ·rw [h4] at e;cases e
     ·rw [h4 _ PV] at hb;cases hb
    rw [if_neg hno,if_neg (Sm.VT U (by decide) (by decide) h3)]
    split at h
    ·cases h
    ·rename_i r hq2
     have hm2:=HU _ _ _ _ hq2
     have hm3:=DN h
     rcases hY p.2 t1 U q.1 q.2 hq with ho|⟨w2,t2,e2,ht2,hr2⟩
     ·exact .inl (S.out ho (by omega))
     ·rw [e2]
      dsimp only
      rcases aP hY [p.1,q.1] q.2 [w,w2] t2 (.cons ht (.one ht2)) hr2 r.1 r.2 hq2 with ho|⟨m,t3,e3,hl,hr3⟩
      ·exact .inl (S.out ho (by omega))
      ·rw [e3]
       dsimp only
       rw [←hl.len]
       exact PF (by decide) hl hr3 v s1 h
theorem aO (hF:A6 Y) (hY:U1 S Y) {s t:Ae} (hr:S.R s t) (hs:BP (Ad s).1=true):ER S S.T (C0 Y s) (C0 Y t):=fun v s1 h=>by
 unfold C0 at h
 split at h
 ·cases h
 ·rename_i p hp
  rcases Sz hr hs p.1 p.2 hp with ho|⟨w,t1,e,ht,hr1⟩
  ·left
   refine S.out ho ?_
   split at h
   ·rename_i U;have:=CJ U (by decide) (by decide);cases h;omega
   split at h
   ·cases h
   ·rename_i q hq
    have:=hF _ _ _ hq
    have:=DN h
    omega
  ·unfold C0
   rw [e]
   dsimp only
   by_cases U:Ba p.2 15 [93]=true
   ·rw [if_pos U] at h
    have:=CJ U (by decide) (by decide)
    cases h
    rcases Sm.is hr1 (by decide) (by decide) U with ho|⟨y1,y3,y4⟩
    ·exact .inl (S.De ho (by omega))
    ·rw [if_pos y1]
     exact .inr ⟨_,_,rfl,S.node (.cons ht (.one y4)),y3⟩
   ·rw [if_neg U] at h
    rw [if_neg (Sm.VT hr1 (by decide) (by decide) U)]
    split at h
    ·cases h
    ·rename_i q hq
     have hm3:=DN h
     rcases hY p.2 t1 hr1 q.1 q.2 hq with ho|⟨w2,t2,e2,ht2,hr2⟩
     ·exact .inl (S.out ho (by omega))
     ·rw [e2]
      exact PF (by decide) (.cons ht (.one ht2)) hr2 v s1 h
theorem YW (hF:A6 Y) (hB:LO Y) (hY:U1 S Y):U1 S (C3 Y):=fun s t hr v s1 h=>by
 have hm:=Dr hF _ _ _ h
 unfold C3 at h
 split at h
 ·rename_i hs
  have hz:=Ds (J6 hs).1
  have tk:gZ (fun u=>BP u&&(decide (u.kind=(Ad s).1.kind)&&decide (u.text=(Ad s).1.text))):=⟨⟨rfl,rfl,fun a b U h2=>by unfold BP;rw [U,h2]⟩,rfl,rfl⟩
  rcases S.yes hr tk (by simp [hs]) hz with ho|⟨y1,_,_,_⟩
  ·exact .inl (S.De ho hm)
  ·simp only [Bool.and_eq_true,decide_eq_true_eq] at y1
   obtain ⟨y1,y2,y3⟩:=y1
   unfold C3
   rw [if_pos y1,y2,y3]
   split at h
   ·rename_i U
    rw [if_pos U]
    split at h
    ·rename_i h2
     rw [if_pos h2]
     exact gk hF hB hY hr hs v s1 h
    ·rename_i h2
     rw [if_neg h2]
     exact aO hF hY hr hs v s1 h
   ·rename_i U
    rw [if_neg U]
    exact Sz hr hs v s1 h
 ·cases h
theorem S7:LO (C3 Y):=fun s n s' h=>by
 unfold C3 at h
 split at h
 ·assumption
 ·cases h
theorem Rj (hB:LO A):LO (Dg A):=fun s n s' h=>by
 unfold Dg Ft at h
 cases U:A s with
 |inl p=>rw [U] at h;cases h
 |inr p=>exact hB s p.1 p.2 U
theorem MB:∀d,LO (DD d)
 |0=>fun s n s' h=>by cases h
 |d+1=>Rj S7
theorem YX:∀d,U1 S (DD d)
 |0=>fun s t U v s1 h=>by cases h
 |d+1=>UC (YW (Cp d) (MB d) (YX d))
end
theorem aD (l:List UInt8):0≤(Bk l).1∧(Bk l).1<16:=by
 unfold Bk gx
 (repeat' split)<;>(dsimp only;omega)
theorem fC (k:Int):0≤Jv k∧Jv k<16:=by
 unfold Jv
 (repeat' split)<;>decide
theorem fY {s:List UInt8} {n:Nat} {k:Int} (h:0≤k∧k<16):0≤(F1 s n k).1∧(F1 s n k).1<16:=by
 fun_induction F1 s n k with
 |case1 n k U hc ih=>exact ih (fC _)
 |case2 n k U hc=>exact h
 |case3 n k U=>exact h
theorem jV {s:List UInt8} {p:Nat} (h:(Cc s p).2.2=0):0<(Cc s p).1∧(Cc s p).1<16:=by
 unfold Cc at h ⊢
 split
 ·rename_i h1
  show 0<(Lt s p).1∧(Lt s p).1<16
  unfold Lt at h1 ⊢
  split
  ·rename_i U;rw [if_pos U] at h1;exact absurd rfl h1
  ·rename_i U
   show 0<(DM (s.drop p)).1∧(DM (s.drop p)).1<16
   unfold DM at U ⊢
   split
   ·dsimp only;omega
   ·rename_i h3
    rw [if_neg h3] at U
    split
    ·rename_i h4;rw [if_pos h4] at U;exact absurd rfl U
    ·show 0<(if _ then (12:Int) else 11)∧(if _ then (12:Int) else 11)<16
     split<;>exact ⟨by decide,by decide⟩
 ·rename_i h1
  rw [if_neg h1] at h
  split
  ·rename_i U
   rw [if_pos U] at h
   split
   ·rename_i h3;rw [if_pos h3] at h;exact absurd h (show ¬(70:Int)=0 by decide)
   ·rename_i h3
    show 0<(Fm s p).1∧(Fm s p).1<16
    unfold Fm at h3 ⊢
    split
    ·rename_i h4;rw [if_pos h4] at h3;exact absurd rfl h3
    ·rename_i h4
     have:=fY (s:=s.drop p) (n:=(Bk (s.drop p)).2) (aD (s.drop p))
     show 0<(Dh (s.drop p)).1∧(Dh (s.drop p)).1<16
     unfold Dh at h4 ⊢
     omega
  ·rename_i U
   rw [if_neg U] at h
   have hq:(Cf s p).1=0∨(Cf s p).1=14∨(Cf s p).1=13:=by
    unfold Cf
    (repeat' split)<;>simp
   omega
theorem jU {s:List UInt8} {p:Nat} {x y:Lx} (h:∀t ∈ x.Ak,0<t.kind∧t.kind<16) (e:Gk s p x=.inr y):∀t ∈ y.Ak,0<t.kind∧t.kind<16:=by
 fun_induction Gk s p x with
 |case1 p x U h1=>cases e
 |case2 p x U h1 h2 h3 ih=>exact ih h e
 |case3 p x U h1 h2 h3=>injection e with e;subst e;exact h
 |case4 p x U h1 h2 h3=>cases e
 |case5 p x U h1 h2 h3 h4 ih=>
  refine ih (fun t ht=>?_) e
  rcases List.mem_append.1 (show t ∈ x.Ak++[_] from ht) with ht|ht
  ·exact h t ht
  ·rw [List.mem_singleton.1 ht];exact jV (by omega)
 |case6 p x U h1 h2 h3 h4=>injection e with e;subst e;exact h
 |case7 p x U=>injection e with e;subst e;exact h
theorem jS {s:List UInt8} {y:Lx} (e:Fs s=.inr y):∀t ∈ y.Ak,0<t.kind∧t.kind<16:=by
 unfold Fs at e
 split at e
 ·cases e
 ·split at e
  ·cases e
  ·split at e
   ·cases e
   ·exact jU (fun t U=>by cases U) e
inductive lp:Nd→Nd→Prop where
 |mk {k f:Int} {t:List UInt8} {a b a' b':Int} {l m:List Nd}:Fp lp l m→lp (.mk k f t a b l) (.mk k f t a' b' m)
theorem Fp.at {T:Nd→Nd→Prop} {l m:List Nd} (h:Fp T l m):∀{i:Nat} {x y:Nd},l[i]? =some x→m[i]? =some y→T x y:=by
 induction h with
 |nil=>intro i x y h;simp at h
 |cons h1 _ ih=>
  intro i x y U hy
  cases i with
  |zero=>simp at U hy;subst U;subst hy;exact h1
  |succ i=>rw [List.getElem?_cons_succ] at U hy;exact ih U hy
mutual
theorem lp.A0:∀n:Nd,lp n n
 | .mk k f t a b l=>.mk (Fp.A0 l)
theorem Fp.A0:∀l:List Nd,Fp lp l l
 |[]=>.nil
 |n::r=>.cons (lp.A0 n) (Fp.A0 r)
end
section
variable {st:St} {R:AM→St→Prop}
attribute [local irreducible] Go.Aw.Ai
theorem dB {f:FuncId} {l l':List Nd} {o1 o2:AO} (hl:l.length=l'.length) (hf:∀(i:Nat) x y (st:St) (R:AM→St→Prop),l[i]? =some x→l'[i]? =some y→R (.ret (.bool true)) st→PC f [enc x,enc y] st R) (h:R (.ret (.bool true)) st):
 PC 53 [.slice 6 (Cs l) o1,.slice 6 (Cs l') o2,.func f [] []] st R:=by
 refine Aa Ac [] Tryz.func53 rfl (by decide) ?_
 repeat' ((conv=>whnf);first|(refine Bc ?_;intros)|(refine Be ?_ ?_<;>intro _)|fail)
 refine Mf 17 [15,16,1,2] l.length (fun k=>k≤l.length) (Nat.zero_le _) Yl ?_
 intro k hk
 by_cases U:k<l.length
 ·obtain ⟨x,hx⟩:∃x,l[(k:Int).toNat]? =some x:=⟨_,List.getElem?_eq_getElem U⟩
  obtain ⟨y,hy⟩:∃y,l'[(k:Int).toNat]? =some y:=⟨_,List.getElem?_eq_getElem (show k<l'.length by omega)⟩
  repeat' ((conv=>whnf);first|(refine Bc ?_;intros)|(refine Be ?_ ?_<;>intro _)|refine hf k x y _ _ hx hy ?_|refine Wq (a:=(k:Int)+1) (by omega) (by omega) ?_)
  all_goals conv=>whnf
  all_goals exact ⟨k+1,U,Nat.sub_lt_sub_left U (Nat.lt_succ_self k),Yl,St.le_refl _⟩
 ·skip
  repeat' ((conv=>whnf);first|(refine Bc ?_;intros)|(refine Be ?_ ?_<;>intro _)|fail)
  all_goals exact fin h rfl
theorem fV:∀(m:Nat) {n U:Nd} {st:St} {R:AM→St→Prop},n.size≤m→lp n U→R (.ret (.bool true)) st→PC 17 [enc n,enc U] st R:=by
 intro m
 induction m with
 |zero=>intro n U st R hm;cases n;rw [Nd.size] at hm;omega
 |succ m ih=>
  intro n U st R hm ha h
  cases ha with
  |@mk k f t a b a' b' l l' hl=>
   refine Aa Ac [] Tryz.func17 rfl (by decide) ?_
   repeat' ((conv=>whnf);first|with_reducible refine Wt rfl ?_|with_reducible refine Wi ?_|(refine Bc ?_;intros)|(refine Be ?_ ?_<;>intro _)|refine dB hl.len (fun i x y st R hx hy h=>ih (by have:=EB (n:=.mk k f t a b l) (List.mem_of_getElem? hx)<;>omega) (hl.at hx hy) h) ?_)
   all_goals exact fin h rfl
end
abbrev Fo:Tk:=⟨15,[40],0,0⟩
abbrev Fx:Tk:=⟨15,[41],0,0⟩
abbrev pb:Tk:=⟨21,[],0,0⟩
structure Pl (s:Ae):Prop where
 tk:∀t ∈ s.Ak,0<t.kind∧t.kind<16
 p0:0≤s.pos
 p1:s.pos≤s.Ak.length
 op:∀x ∈ s.CG,x=0
 wt:s.wait=0
def DL (s:Ae):Ae:=⟨Fo::(s.Ak++[Fx]),s.pos+1,s.CG,s.wait⟩
theorem Pl.top {s:Ae} (h:Pl s):F3 s=0:=by
 unfold F3
 cases e:s.CG.getLast? with
 |none=>rfl
 |some x=>exact h.op x (List.mem_of_getLast? e)
theorem Yz {l:List Int} (h:∀x ∈ l,x=0):(l.any fun x=>decide (x<0))=false:=by
 apply Bool.eq_false_iff.2
 intro e
 obtain ⟨x,h1,U⟩:=List.any_eq_true.1 e
 rw [h x h1] at U
 exact absurd U (by decide)
theorem Pl.may {s:Ae} (h:Pl s):Hh s=true:=by
 unfold Hh
 rw [h.wt,Yz h.op,decide_eq_true h.p0,decide_eq_true h.p1];rfl
theorem Pl.pq {s:Ae} (h:Pl s):Hh (DL s)=true:=by
 unfold Hh DL
 have U:=h.p0
 have h1:=h.p1
 dsimp only
 rw [h.wt,Yz h.op,decide_eq_true (show (0:Int)≤s.pos+1 by omega),decide_eq_true (show s.pos+1≤((Fo::(s.Ak++[Fx])).length:Int) by rw [List.length_cons,List.length_append,List.length_singleton];omega)];rfl
theorem Pl.next {s:Ae} {t:Tk} (h:Pl s) (U:s.Ak[s.pos.toNat]? =some t):Ad s=CQ t s:=by
 have hk:=h.tk t (List.mem_of_getElem? U)
 unfold Ad
 rw [if_pos h.may,GF U h.p0,if_neg (by omega),if_neg (by omega)]
theorem Pl.eW {s:Ae} {t:Tk} (h:Pl s) (hk:t.kind≠16∧t.kind≠17) (U:(DL s).Ak[(DL s).pos.toNat]? =some t):Ad (DL s)=CQ t (DL s):=by
 have h0:=h.p0
 unfold Ad
 rw [if_pos h.pq,GF U (show (0:Int)≤s.pos+1 by omega),if_neg (by omega),if_neg (by omega)]
theorem dn {s:Ae} {t:Tk} (h0:0≤s.pos) (U:s.Ak[s.pos.toNat]? =some t):(DL s).Ak[(DL s).pos.toNat]? =some t:=by
 unfold DL
 dsimp only
 rw [show (s.pos+1).toNat=s.pos.toNat+1 by omega,List.getElem?_cons_succ,List.getElem?_append_left (List.getElem?_eq_some_iff.1 U).1]
 exact U
theorem jh {s:Ae} (U:0≤s.pos) (h:s.pos=s.Ak.length):(DL s).Ak[(DL s).pos.toNat]? =some Fx:=by
 unfold DL
 dsimp only
 rw [show (s.pos+1).toNat=s.pos.toNat+1 by omega,List.getElem?_cons_succ,List.getElem?_append_right (by omega),show s.pos.toNat - s.Ak.length=0 by omega]
 rfl
theorem Pl.oh {s:Ae} {t:Tk} (h:Pl s) (ht:s.Ak[s.pos.toNat]? =some t) (hz:(CQ t s).2.2=0):Pl (CQ t s).2.1:=by
 have hl:=(List.getElem?_eq_some_iff.1 ht).1
 have h0:=h.p0
 unfold CQ at hz ⊢
 split
 ·exact ⟨h.tk,by show 0≤s.pos+1;omega,by show s.pos+1≤(s.Ak.length:Int);omega,fun x U=>by
   rcases List.mem_append.1 U with U|U
   ·exact h.op x U
   ·exact List.mem_singleton.1 U,h.wt⟩
 ·rename_i e1
  rw [if_neg e1] at hz
  split
  ·rename_i e2
   rw [if_pos e2] at hz
   split
   ·rename_i e3;rw [if_pos e3] at hz;cases hz
   ·exact ⟨h.tk,by show 0≤s.pos+1;omega,by show s.pos+1≤(s.Ak.length:Int);omega,fun x U=>h.op x ((List.dropLast_sublist _).subset U),h.wt⟩
  ·exact ⟨h.tk,by show 0≤s.pos+1;omega,by show s.pos+1≤(s.Ak.length:Int);omega,h.op,h.wt⟩
theorem Qw {s:Ae} {t:Tk}:CQ t (DL s)=((CQ t s).1,DL (CQ t s).2.1,(CQ t s).2.2):=by
 unfold CQ
 have e:F3 (DL s)=F3 s:=rfl
 rw [e]
 by_cases U:t.kind=15∧t.text=[123]
 ·rw [if_pos U,if_pos U];rfl
 ·rw [if_neg U,if_neg U]
  by_cases h2:t.kind=15∧t.text=[125]
  ·rw [if_pos h2,if_pos h2]
   by_cases h3:s.CG=[]∨F3 s≠0
   ·rw [if_pos h3,if_pos (show (DL s).CG=[]∨F3 s≠0 from h3)]
   ·rw [if_neg h3,if_neg (show ¬((DL s).CG=[]∨F3 s≠0) from h3)];rfl
  ·rw [if_neg h2,if_neg h2];rfl
theorem Pl.cases {s:Ae} (h:Pl s):(∃t,s.Ak[s.pos.toNat]? =some t)∨s.pos=s.Ak.length:=by
 have U:=h.p0
 have h1:=h.p1
 by_cases e:s.pos=s.Ak.length
 ·exact .inr e
 ·exact .inl ⟨_,List.getElem?_eq_getElem (show s.pos.toNat<s.Ak.length by omega)⟩
theorem Pl.fin {s:Ae} (h:Pl s) (e:s.pos=s.Ak.length):(Ad s).1=pb∨(Ad s).1=YZ:=by
 unfold Ad
 rw [if_pos h.may,Mk (by omega) h.p0]
 unfold FW
 split
 ·exact .inl rfl
 ·rw [if_neg (by rw [h.top];decide)];exact .inr rfl
theorem Pl.mI {s:Ae} (h:Pl s) (e:s.pos=s.Ak.length):Ad (DL s)=(Fx,{DL s with pos:=(DL s).pos+1},0):=by
 rw [h.eW (by decide) (jh h.p0 e)];rfl
theorem Pl.test {s:Ae} {p:Tk→Bool} (h:Pl s) (hp:U8 p):p (Ad (DL s)).1=p (Ad s).1:=by
 rcases h.cases with ⟨t,ht⟩|e
 ·have hk:=h.tk t (List.mem_of_getElem? ht)
  rw [h.next ht,h.eW (by omega) (dn h.p0 ht),Qw]
 ·rw [h.mI e]
  show p Fx=_
  rw [hp.c]
  rcases h.fin e with U|U
  ·rw [U];exact hp.e.symm
  ·rw [U];exact hp.z.symm
theorem Pl.has {s:Ae} {p:Tk→Bool} (h:Pl s) (hp:Tst0 p) (e:p (Ad s).1=true):∃t,s.Ak[s.pos.toNat]? =some t:=by
 rcases h.cases with U|U
 ·exact U
 ·rcases h.fin U with h2|h2
  ·rw [h2,hp.e] at e;cases e
  ·rw [h2,hp.z] at e;cases e
theorem Pl.go {s:Ae} {t:Tk} (h:Pl s) (U:s.Ak[s.pos.toNat]? =some t):Ad (DL s)=((Ad s).1,DL (Ad s).2.1,(Ad s).2.2)∧((Ad s).2.2=0→Pl (Ad s).2.1):=by
 have hk:=h.tk t (List.mem_of_getElem? U)
 rw [h.next U,h.eW (by omega) (dn h.p0 U)]
 exact ⟨Qw,h.oh U⟩
theorem Pl.is {s:Ae} {k:Int} {x:List UInt8} (h:Pl s) (U:k≠0∧k≠21) (hc:¬(k=15∧x=[41])):Ba (DL s) k x=Ba s k x:=h.test (p:=fun t=>t.kind==k&&t.text==x) (gH U hc)
theorem Pl.mu {s:Ae} (h:Pl s):mu (DL s)=mu s+4:=by
 have U:=h.p0
 have h1:=h.p1
 unfold Proofs.YtkidoddkbhchkaaGreatDoor.mu DL
 dsimp only
 rw [List.length_cons,List.length_append,List.length_singleton]
 omega
def p5:Sm where
 R:=fun s t=>Pl s∧t=DL s
 T:=Eq
 Out:=fun _=>False
 o6:=fun _=>False
 out:=fun h _=>h
 De:=fun h _=>h
 yes:=by
  rintro s t p ⟨h,rfl⟩ U e hz
  obtain ⟨u,hu⟩:=h.has U.toTst0 e
  obtain ⟨h1,h2⟩:=h.go hu
  rw [h1]
  exact .inr ⟨e,hz,⟨h2 hz,rfl⟩,rfl⟩
 no:=by
  rintro s t p ⟨h,rfl⟩ U e
  rw [h.test U];exact e
 pH:=by
  rintro s t ⟨h,rfl⟩ e
  rcases h.cases with ⟨u,hu⟩|h1
  ·left
   show ((Ad (DL s)).1.kind==15&&(Ad (DL s)).1.text==[41])=false
   rw [(h.go hu).1];exact e
  ·right
   intro p U
   rcases h.fin h1 with h2|h2
   ·rw [h2];exact U.e
   ·rw [h2];exact U.z
 mu:=by
  rintro s t s' t' ⟨h,rfl⟩ ⟨h',rfl⟩ hm
  rw [h.mu,h'.mu];omega
 node:=fun {k l m} h=>by
  have:l=m:=by
   induction h with
   |nil=>rfl
   |cons h1 _ ih=>rw [h1,ih]
  rw [this]
def CU {α:Type} (X:α→Ae→Prop) (a b:Rd α) (s:Ae):Prop:=∀v s',a.run s=.inr (v,s')→Pl s'∧(X v s'∨b.run (DL s)=.inr (v,DL s'))
abbrev SP {α:Type} (a b:Rd α) (s:Ae):Prop:=CU (fun _ _=>False) a b s
def Em {α:Type} (a:Rd α):Prop:=∀s,Pl s→SP a a s
def Rl (s:Ae):Prop:=∃t,s.Ak[s.pos.toNat]? =some t
def Fa {α:Type} (A:Rd α) (s:Ae):Prop:=Rd.wp A s (fun _ _=>False) (fun _ _=>True)
section
variable {α β σ:Type} {s:Ae} {X:α→Ae→Prop} {Y:β→Ae→Prop}
theorem Fa.no {A:Rd α} {s':Ae} {v:α} (h:Fa A s) (e:A.run s=.inr (v,s')):False:=by
 unfold Fa Rd.wp at h
 rw [e] at h;exact h
theorem Fa.of {A:Rd α} (h:∀v s',A.run s≠.inr (v,s')):Fa A s:=Rd.UZ (fun v s' e=>h v s' e) (fun _ _ _=>trivial)
theorem Fa.seq {m:Rd α} {k:α→Rd β} (h:Fa m s):Fa (.seq m k) s:=by
 unfold Fa
 rw [Rd.wp_seq]
 exact Rd.wp_mono h (fun _ _ _ f=>f.elim) (fun _ _ _ _=>trivial)
theorem CU.fa {A B:Rd α} (h:Fa A s):CU X A B s:=fun v s' e=>(h.no e).elim
theorem CU.ret {v:α} (h:Pl s):CU X (.ret v) (.ret v) s:=fun w s' e=>by cases e;exact ⟨h,.inr rfl⟩
theorem CU.fail {e:Er} {b:Rd α}:CU X (.fail e) b s:=fun w s' h=>by cases h
theorem CU.Jg {t:Ae} {e:Er} {b:Rd α}:CU X (.Jg t e) b s:=fun w s' h=>by cases h
theorem CU.bad {b:Rd α}:CU X P2 b s:=fun w s' h=>by cases h
theorem CU.wk {a b:Rd α} (h:SP a b s):CU X a b s:=fun v s' e=>by
 obtain ⟨h1,U|U⟩:=h v s' e
 ·exact U.elim
 ·exact ⟨h1,.inr U⟩
theorem CU.nJ {m m':Rd α} {k k':α→Rd β} (h:SP m m' s) (hk:∀v s',m.run s=.inr (v,s')→Pl s'→CU Y (k v) (k' v) s'):CU Y (.seq m k) (.seq m' k') s:=fun v s' e=>by
 unfold Rd.seq at e ⊢
 dsimp only at e ⊢
 cases U:m.run s with
 |inl p=>rw [U] at e;cases e
 |inr p=>
  rw [U] at e
  obtain ⟨h1,h2|h2⟩:=h p.1 p.2 U
  ·exact h2.elim
  ·rw [h2]
   exact hk p.1 p.2 U h1 v s' e
theorem CU.seq {m m':Rd α} {k U:α→Rd β} (h:SP m m' s) (hk:∀v s',Pl s'→CU Y (k v) (U v) s'):CU Y (.seq m k) (.seq m' U) s:=CU.nJ h fun v s' _=>hk v s'
theorem CU.look {f U:Ae→Rd α} (h:CU X (f s) (U (DL s)) s):CU X (.look f) (.look U) s:=h
theorem CU.ite {c U:Prop} [Decidable c] [Decidable U] {a b a' b':Rd α} (h:U↔c) (h1:c→CU X a a' s) (h2:¬c→CU X b b' s):CU X (if c then a else b) (if U then a' else b') s:=by
 by_cases e:c
 ·rw [if_pos e,if_pos (h.2 e)];exact h1 e
 ·rw [if_neg e,if_neg (fun e'=>e (h.1 e'))];exact h2 e
theorem CU.Xn {p:Tk→Bool} {a b U b':Rd α} (h:Pl s) (hp:U8 p) (h1:Rl s→p (Ad s).1=true→CU X a U s) (h2:CU X b b' s):CU X (if p (Ad s).1=true then a else b) (if p (Ad (DL s)).1=true then U else b') s:=by
 rw [h.test hp]
 by_cases e:p (Ad s).1=true
 ·rw [if_pos e,if_pos e];exact h1 (h.has hp.toTst0 e) e
 ·rw [if_neg e,if_neg e];exact h2
theorem CU.is {k:Int} {x:List UInt8} {a b U b':Rd α} (h:Pl s) (hk:k≠0∧k≠21) (hc:¬(k=15∧x=[41])) (h1:Rl s→CU X a U s) (h2:CU X b b' s):CU X (if Ba s k x=true then a else b) (if Ba (DL s) k x=true then U else b') s:=
 CU.ite (by rw [h.is hk hc]) (fun e=>h1 (h.has (p:=fun t=>t.kind==k&&t.text==x) (IH hk) e)) fun _=>h2
theorem Pl.same (h:Pl s) (r:Rl s):(Ad (DL s)).1=(Ad s).1:=by
 obtain ⟨t,U⟩:=r
 rw [(h.go U).1]
theorem Pl.sec (h:Pl s) (r:Rl s) (hz:(Ad s).2.2=0):Pl (Ad s).2.1∧(Ad (DL s)).2.1=DL (Ad s).2.1:=by
 obtain ⟨t,U⟩:=r
 exact ⟨(h.go U).2 hz,by rw [(h.go U).1]⟩
theorem CU.ik (p:Tk→Bool) {a b U b':Rd α} (h:Pl s) (r:Rl s) (h1:p (Ad s).1=true→CU X a U s) (h2:¬p (Ad s).1=true→CU X b b' s):CU X (if p (Ad s).1=true then a else b) (if p (Ad (DL s)).1=true then U else b') s:=
 CU.ite (by rw [h.same r]) h1 h2
theorem CU.pG {a b U b':Rd α} (h:Pl s) (h1:Rl s→CU X a U s) (h2:CU X b b' s) (h3:s.pos=s.Ak.length→CU X b U s):CU X (if Ba s 15 [41]=true then a else b) (if Ba (DL s) 15 [41]=true then U else b') s:=by
 rcases h.cases with ⟨t,ht⟩|e
 ·have r:Rl s:=⟨t,ht⟩
  refine CU.ite ?_ (fun _=>h1 r) (fun _=>h2)
  unfold Ba
  rw [h.same r]
 ·have n1:Ba s 15 [41]=false:=by
   show ((Ad s).1.kind==15&&(Ad s).1.text==[41])=false
   rcases h.fin e with h4|h4<;>rw [h4]<;>rfl
  have n2:Ba (DL s) 15 [41]=true:=by
   show ((Ad (DL s)).1.kind==15&&(Ad (DL s)).1.text==[41])=true
   rw [h.mI e];rfl
  rw [n1,n2,if_neg (by decide),if_pos rfl]
  exact h3 e
theorem CU.loop {body:σ→Rd (Sum σ α)} (h:∀x s,Pl s→CU (fun r s1=>∃x',r=.inl x'∧Fa (.loop body x') s1) (body x) (body x) s) (x:σ):Em (.loop body x):=fun s=>by
 show Pl s→∀v s',Rd.iter body x s=.inr (v,s')→Pl s'∧(False∨Rd.iter body x (DL s)=.inr (v,DL s'))
 fun_induction Rd.iter body x s with
 |case1 x s p h1=>intro hs v s' e;cases e
 |case2 x s y s1 h1=>
  intro hs v s' e
  cases e
  obtain ⟨h2,⟨x',U,_⟩|U⟩:=h x s hs _ _ h1
  ·cases U
  ·refine ⟨h2,.inr ?_⟩
   rw [Rd.iter,U]
 |case3 x s x' s1 h1 hlt ih=>
  intro hs v s' e
  obtain ⟨h2,⟨x2,U,h4⟩|U⟩:=h x s hs _ _ h1
  ·cases U
   exact (h4.no (v:=v) (s':=s') e).elim
  ·obtain ⟨h4,h5⟩:=ih h2 v s' e
   refine ⟨h4,?_⟩
   rw [Rd.iter,U]
   dsimp only
   rw [if_pos (by rw [hs.mu,h2.mu];omega)]
   exact h5
 |case4 x s x' s1 h1 hlt=>intro hs v s' e;cases e
theorem CU.tk {X:Nd→Ae→Prop} (h:Pl s) (r:Rl s):CU X A7 A7 s:=fun v s' U=>by
 obtain ⟨t,ht⟩:=r
 obtain ⟨h1,h2⟩:=h.go ht
 by_cases hz:(Ad s).2.2=0
 ·rw [Cu hz] at U
  cases U
  refine ⟨h2 hz,.inr ?_⟩
  rw [Cu (by rw [h1];exact hz),h1]
 ·rw [LM hz] at U;cases U
theorem CX {k:Int} {x:List UInt8} (hk:k≠0∧k≠21):Em (Cd k x):=fun s hs=>CU.look (fun v s' U=>by
 by_cases e:Ba s k x=true
 ·rw [if_pos e] at U
  have r:Rl s:=hs.has (p:=fun t=>t.kind==k&&t.text==x) (IH hk) e
  have h3:Ba (DL s) k x=true:=by
   obtain ⟨t,ht⟩:=r
   unfold Ba
   rw [(hs.go ht).1];exact e
  rw [if_pos h3]
  exact CU.tk (X:=fun _ _=>False) hs r v s' U
 ·rw [if_neg e] at U;cases U)
theorem XZ {ks:List Int} (h1:ks.contains 0=false) (h2:ks.contains 21=false):Em (IL ks):=fun s hs=>CU.look (fun v s' U=>by
 have hp:Tst0 (fun t=>ks.contains t.kind):=⟨h2,h1,fun a b e _=>by rw [e]⟩
 by_cases e:ks.contains (Ad s).1.kind=true
 ·rw [if_pos e] at U
  have r:Rl s:=hs.has hp e
  have h3:ks.contains (Ad (DL s)).1.kind=true:=by
   obtain ⟨t,ht⟩:=r
   rw [(hs.go ht).1];exact e
  rw [if_pos h3]
  exact CU.tk (X:=fun _ _=>False) hs r v s' U
 ·rw [if_neg e] at U;cases U)
theorem je {A:Ae→Rs} {hle:∀s v s',A s=.inr (v,s')→mu s'≤mu s} (h:U1 p5 A):Em (Qg A hle):=fun s hs v s' U=>by
 cases hA:A s with
 |inl p=>unfold Qg at U;dsimp only at U;rw [hA] at U;dsimp only at U;split at U<;>cases U
 |inr p=>
  rw [It hA] at U
  cases U
  have h2:False∨∃w t1,A (DL s)=.inr (w,t1)∧v=w∧(Pl s'∧t1=DL s'):=h s (DL s) (show Pl s∧DL s=DL s from ⟨hs,rfl⟩) _ _ hA
  rcases h2 with ho|⟨w,t1,e,rfl,h1,rfl⟩
  ·exact ho.elim
  ·exact ⟨h1,.inr (It e)⟩
end
theorem XX (d:Nat):Em (Ee d):=je (kO (Dr (Cp _)) (YW (Cp _) (MB _) (YX _)))
namespace Rd
variable {α β γ σ:Type}
theorem eI {body:σ→Rd (Sum σ β)} {P:β→Ae→Prop} (h1:∀x s y s',(body x).run s=.inr (.inr y,s')→P y s') (x:σ) (s:Ae):∀y s',(loop body x).run s=.inr (y,s')→P y s':=by
 show ∀y s',iter body x s=.inr (y,s')→P y s'
 fun_induction iter body x s with
 |case1 x s e h=>intro y s' U;cases U
 |case2 x s y s1 h=>intro y s' U;cases U;exact h1 _ _ _ _ h
 |case3 x s x' s1 h hlt ih=>exact ih
 |case4 x s x' s1 h hlt=>intro y s' U;cases U
end Rd
theorem kG {U:Bool} {opd:Rd Nd} {s s':Ae} {p:List Nd×Bool} (h:(Ed opd U).run s=.inr (p,s')):p.2=true→U=true∧Ba s' 15 [41]=true∧2≤p.1.length:=
 Rd.eI (body:=GL opd U) (P:=fun p s'=>p.2=true→U=true∧Ba s' 15 [41]=true∧2≤p.1.length) (fun l s y s' h=>by
  unfold GL at h
  obtain ⟨l2,s2,_,h⟩:=BG h
  obtain ⟨n,s3,_,h⟩:=BG h
  replace h:(if EN (Ad s3).1=true then Rd.seq Fv fun o=>(if U=true then Rd.look fun s=>if Ba s 15 [41]=true then Rd.ret (.inr (l2++[n]++[o],true)) else Rd.ret (.inl (l2++[n]++[o])) else Rd.ret (.inl (l2++[n]++[o]))) else Rd.ret (.inr (l2++[n],false)):Rd (Sum (List Nd) (List Nd×Bool))).run s3=.inr (.inr y,s'):=h
  split at h
  ·obtain ⟨o,s4,_,h⟩:=BG h
   split at h
   ·rename_i hb
    replace h:(if Ba s4 15 [41]=true then Rd.ret (.inr (l2++[n]++[o],true)) else Rd.ret (.inl (l2++[n]++[o])):Rd (Sum (List Nd) (List Nd×Bool))).run s4=.inr (.inr y,s'):=h
    split at h
    ·rename_i hi;cases h;exact fun _=>⟨hb,hi,by simp⟩
    ·cases h
   ·cases h
  ·cases h;exact fun e=>Bool.noConfusion (show false=true from e)) _ _ _ _ h
theorem SL:U8 IE:=⟨⟨rfl,rfl,fun a b U h2=>by unfold IE;rw [U,h2]⟩,rfl⟩
theorem SK:U8 EN:=⟨⟨rfl,rfl,fun a b U h2=>by unfold EN IE;rw [U,h2]⟩,rfl⟩
theorem N5:U8 B3:=⟨⟨rfl,rfl,fun a b U h2=>by unfold B3;rw [U,h2]⟩,rfl⟩
theorem SJ:U8 BO:=⟨⟨rfl,rfl,fun a b U h2=>by unfold BO B3;rw [U,h2]⟩,rfl⟩
theorem kZ:U8 Ic:=⟨⟨rfl,rfl,fun a b U h2=>by unfold Ic;rw [U,h2]⟩,rfl⟩
theorem bz:U8 Fz:=⟨⟨rfl,rfl,fun a b U h2=>by unfold Fz BO Ic B3;rw [U,h2]⟩,rfl⟩
theorem PU:U8 Jz:=⟨⟨rfl,rfl,fun a b U h2=>by unfold Jz;rw [U,h2]⟩,rfl⟩
theorem SI {k:Int} (h:k≠0∧k≠21):Tst0 (fun t=>t.kind==k):=⟨beq_eq_false_iff_ne.2 fun e=>h.2 e.symm,beq_eq_false_iff_ne.2 fun e=>h.1 e.symm,fun a b U _=>by rw [U]⟩
theorem PT {k:Int} (h:k≠0∧k≠21∧k≠15):U8 (fun t=>t.kind==k):=⟨SI ⟨h.1,h.2.1⟩,beq_eq_false_iff_ne.2 fun e=>h.2.2 e.symm⟩
def H0 {α:Type} (A:Rd α):Prop:=∀s,Pl s→s.pos=s.Ak.length→Fa A s
theorem Pl.no {s:Ae} {p:Tk→Bool} (h:Pl s) (e:s.pos=s.Ak.length) (hp:Tst0 p):p (Ad s).1=false:=by
 rcases h.fin e with U|U
 ·rw [U];exact hp.e
 ·rw [U];exact hp.z
theorem Pl.nq {s:Ae} {k:Int} {x:List UInt8} (h:Pl s) (e:s.pos=s.Ak.length) (U:k≠0∧k≠21):Ba s k x=false:=h.no (p:=fun t=>t.kind==k&&t.text==x) e (IH U)
section
variable {A B C D E:Rd Nd} {L:Eo} {s:Ae} {o:Nd}
theorem Z0:H0 (Gt L):=fun s h e=>by
 unfold Fa Gt
 rw [Rd.Ao,if_neg (by rw [h.no e N5.toTst0];decide)]
 exact trivial
theorem ZZ:H0 (FU L):=fun s h e=>(Z0 s h e).seq
theorem dW (U:H0 A):H0 (Df L A):=fun s h e=>by
 unfold Fa Df
 rw [Rd.Ao,if_neg (by rw [h.no (p:=fun t=>t.kind==10) e (SI (by decide))];decide),if_neg (by rw [h.no (p:=fun t=>t.kind==9) e (SI (by decide))];decide)]
 exact (U s h e).seq
theorem O4 {l:List Nd} (h:Pl s) (e:s.pos=s.Ak.length) {Q:List Nd→Ae→Prop} {E:Er→Ae→Prop} (k:Q l s):Rd.wp (Iq l) s Q E:=by
 unfold Iq
 rw [Rd.wp_loop]
 unfold Ip
 rw [Rd.Ao,if_neg (by rw [h.nq e (by decide)];decide),Rd.wp_ret]
 exact k
theorem QJ {b:Bool} {l:List Nd} (U:H0 A):H0 (.loop (GL A b) l):=fun s h e=>by
 unfold Fa
 rw [Rd.wp_loop]
 unfold GL
 rw [Rd.wp_seq]
 refine O4 h e ?_
 rw [Rd.wp_seq]
 exact Rd.wp_mono (U s h e) (fun _ _ _ f=>f.elim) (fun _ _ _ _=>trivial)
theorem TG {b:Bool} (U:H0 A):H0 (Ed A b):=QJ U
theorem QI {b:Bool} (hA:H0 A) (h:Pl s) (e:Ba s 5 [45]=true) (U:(Ad s).2.1.pos=(Ad s).2.1.Ak.length):Fa (Ed A b) s:=by
 unfold Fa Ed
 rw [Rd.wp_loop]
 unfold GL
 rw [Rd.wp_seq]
 unfold Iq
 rw [Rd.wp_loop]
 have r:Rl s:=h.has (p:=fun t=>t.kind==5&&t.text==[45]) (IH (by decide)) e
 have hz:=GC e (by decide)
 have h1:=(h.sec r hz).1
 have hm:=CJ e (by decide) (by decide)
 have hb:(Ip []:Rd (Sum (List Nd) (List Nd))).run s=.inr (.inl ([]++[AD 19 [AJ (Ad s).1]]),(Ad s).2.1):=by
  show (if Ba s 5 [45]=true then (Rd.seq A7 fun t=>Rd.ret (Sum.inl ([]++[AD 19 [t]]))) else Rd.ret (Sum.inr []):Rd (Sum (List Nd) (List Nd))).run s=_
  rw [if_pos e]
  unfold Rd.seq
  dsimp only
  rw [Cu hz];rfl
 have hw:∀{Q:Sum (List Nd) (List Nd)→Ae→Prop} {E:Er→Ae→Prop},Q (.inl ([]++[AD 19 [AJ (Ad s).1]])) (Ad s).2.1→Rd.wp (Ip []) s Q E:=fun k=>by unfold Rd.wp;rw [hb];exact k
 refine hw ?_
 show if mu (Ad s).2.1<mu s then _ else _
 rw [if_pos hm]
 refine O4 h1 U ?_
 rw [Rd.wp_seq]
 exact Rd.wp_mono (hA _ h1 U) (fun _ _ _ f=>f.elim) (fun _ _ _ _=>trivial)
theorem dX (U:H0 A):H0 (Pv A):=fun s h e=>(TG U s h e).seq
structure CH (L:Eo):Prop where
 atom:Em L.atom
 exp:Em L.exp
 ops:Em L.ops
 decls:Em L.decls
 stmts:Em L.stmts
 alts:Em L.alts
 Dz:∀o,Em (L.Dz o)
 list:∀o,Em (L.list o)
 oC:H0 L.ops
 hb:∀o,H0 (L.Dz o)
 LN:∀o s,Pl s→Ba s 5 [45]=true→(Ad s).2.1.pos=(Ad s).2.1.Ak.length→Fa (L.Dz o) s
theorem NB:Em Fv:=fun s hs=>.look (.Xn hs SL (fun r _=>.seq (.tk hs r) fun v s1 U=>.ret U)
 (.seq (CX (by decide) s hs) fun v s1 U=>.seq (XZ rfl rfl s1 U) fun v s2 h2=>.seq (CX (by decide) s2 h2) fun v s3 h3=>.ret h3))
theorem dg {l:List Nd}:Em (Iq l):=CU.loop (body:=Ip) (fun l s U=>.look (.is U (by decide) (by decide) (fun r=>.seq (.tk U r) fun v s1 h1=>.ret h1) (.ret U))) l
theorem Hv {p:Nd→Bool} (hA:SP A A s):SP (Cz A p) (Cz A p) s:=.look (.seq hA fun n s1 U=>.ite Iff.rfl (fun _=>.ret U) fun _=>.Jg)
theorem Vv {b:Bool} (hA:Em A) (hH:H0 A):Em (Ed A b):=CU.loop (body:=GL A b) (fun l s hs=>.seq (dg s hs) fun l1 s1 h1=>.seq (hA s1 h1) fun n s2 h2=>
 .look (.Xn h2 SK (fun _ _=>.seq (NB s2 h2) fun o s3 U=>.ite Iff.rfl (fun _=>.look (.pG U (fun _=>.ret U) (.ret U) (fun he v s' e=>by cases e;exact ⟨U,.inl ⟨_,rfl,QJ hH _ U he⟩⟩))) fun _=>.ret U) (.ret h2))) []
theorem RB (hA:Em A) (hH:H0 A):Em (Pv A):=fun s hs=>.seq (Vv hA hH s hs) fun v s1 U=>.ret U
theorem OL {n:Nd} (hB:Em B):Em (Gc B n):=fun s U=>.look (.is U (by decide) (by decide) (fun r=>.seq (.tk U r) fun c s1 h1=>.seq (hB s1 h1) fun t s2 h2=>.ret h2) (.ret U))
theorem mA (hA:Em A) (hH:H0 A) (hB:Em B):Em (Tx A B):=fun s hs=>.seq (RB hA hH s hs) fun n s1 U=>OL hB s1 U
theorem Tp (hL:CH L) {a b:Nd}:Em (Io L a b):=fun s hs=>.seq (CX (by decide) s hs) fun _ s1 U=>.seq (hL.exp s1 U) fun _ s2 h2=>.ret h2
theorem mB (U:CH L) (hs:Pl s) (r:Rl s):SP (TS L) (TS L) s:=.seq (.tk hs r) fun _ s1 h1=>.seq (U.decls s1 h1) fun _ s2 h2=>Tp U s2 h2
theorem X0 {X:Sum (List Nd) (List Nd)→Ae→Prop} {l:List Nd} (hA:Em A) (hs:Pl s):CU X (GZ A l) (GZ A l) s:=.seq (Hv (hA s hs)) fun _ s1 U=>.ret U
theorem ZL (hL:CH L) (hA:Em A) (U:Pl s) (r:Rl s):SP (Gj L A) (Gj L A) s:=.seq (.tk U r) fun b s1 h1=>.seq (CU.loop (body:=NH A) (fun l s U=>.ite Iff.rfl (fun _=>X0 hA U) fun _=>.look (.Xn U N5 (fun _ _=>X0 hA U) (.ret U))) [b] s1 h1) fun l s2 h2=>
 .seq (CX (by decide) s2 h2) fun a s3 h3=>.seq (hL.exp s3 h3) fun e s4 h4=>.ret h4
theorem K9 (hs:Pl s) (r:Rl s):SP HR HR s:=.seq (.tk hs r) fun _ s1 U=>.ret U
theorem jf {w:List UInt8}:Em (Uy w):=fun s U=>.look (.Xn U PU (fun r e=>by
 have hz:(Ad s).2.2=0:=Ds (Lh (Md e)).1
 obtain ⟨h1,h2⟩:=U.sec r hz
 refine .ite ?_ (fun _=>K9 U r) (fun _=>.ret U)
 rw [h2,h1.is (by decide) (fun e=>absurd e.1 (by decide))]) (.ret U))
theorem X1 (hL:CH L) {l:List Nd} {w:List UInt8}:Em (Jt L l w):=fun s hs=>.seq (jf s hs) fun _ s1 U=>.seq (CX (by decide) s1 U) fun a s2 h2=>.seq (hL.exp s2 h2) fun e s3 h3=>.ret h3
theorem ZJ (U:CH L) (hs:Pl s) (r:Rl s):SP (Gf L) (Gf L) s:=.seq (.tk hs r) fun i s1 h1=>.seq (U.exp s1 h1) fun c s2 h2=>.seq (X1 U s2 h2) fun l s3 h3=>.seq (X1 U s3 h3) fun l s4 h4=>.ret h4
theorem jb (U:CH L) (hs:Pl s) (r:Rl s):SP (MD L) (MD L) s:=.seq (.tk hs r) fun i s1 h1=>.seq (U.exp s1 h1) fun c s2 h2=>.seq (CX (by decide) s2 h2) fun l s3 h3=>.seq (U.alts s3 h3) fun l s4 h4=>.ret h4
theorem dm (hL:CH L) (hs:Pl s) (r:Rl s):SP (ID L) (ID L) s:=.seq (.tk hs r) fun i s1 U=>.seq (hL.stmts s1 U) fun c s2 h2=>.ite Iff.rfl (fun _=>.fail) fun _=>.ret h2
theorem OI (hA:Em A):Em (F6 A):=fun s U=>.seq (hA s U) fun n s1 h1=>.seq (CU.loop (body:=Ri A) (fun l s U=>.look (.Xn U N5 (fun _ _=>.seq (hA s U) fun n s1 h1=>.ret h1) (.ret U))) [n] s1 h1) fun l s2 h2=>.ret h2
theorem Vu (hL:CH L) (hA:Em A):Em (Df L A):=fun s U=>.look (CU.Xn (p:=fun t=>t.kind==10) U (PT (by decide)) (fun r _=>CU.ik (fun t=>t.text==[92]) U r (fun _=>ZL hL hA U r) fun _=>OI hA s U)
 (CU.Xn (p:=fun t=>t.kind==9) U (PT (by decide)) (fun r _=>CU.ik (fun t=>t.text==bC) U r (fun _=>mB hL U r) fun _=>CU.ik (fun t=>t.text==oZ) U r (fun _=>ZJ hL U r) fun _=>CU.ik (fun t=>t.text==UT) U r (fun _=>jb hL U r) fun _=>
   CU.ik (fun t=>t.text==oX) U r (fun _=>dm hL U r) fun _=>OI hA s U) (OI hA s U)))
theorem XY:Em (QL o):=fun s U=>.seq (CU.loop (body:=Ny) (fun l s U=>.look (.is U (by decide) (by decide) (fun r=>.seq (.tk U r) fun c s1 h1=>.ret h1) (.ret U))) [o] s U) fun l s1 h1=>.seq (CX (by decide) s1 h1) fun c s2 h2=>.ret h2
theorem QE (hL:CH L):Em (Fi L o):=fun s U=>.look (.Xn U SK (fun _ _=>.is U (by decide) (by decide) (fun _=>hL.Dz o s U) (.seq (NB s U) fun p s1 h1=>.seq (hL.ops s1 h1) fun e s2 h2=>.seq (CX (by decide) s2 h2) fun c s3 h3=>.ret h3)) (hL.Dz o s U))
theorem ZV (U:CH L):H0 (Fi L o):=fun s h e=>by
 unfold Fa Fi
 rw [Rd.Ao,if_neg (by rw [h.no e SK.toTst0];decide)]
 exact U.hb o s h e
theorem VC (hL:CH L) (h:Pl s) (r:Rl s) (e:IE (Ad s).1=true) (U:(Ad s).2.1.pos=(Ad s).2.1.Ak.length):Fa (Fi L o) s:=by
 have hz:=Ds (KJ e).1
 obtain ⟨h1,_⟩:=h.sec r hz
 unfold Fa Fi
 rw [Rd.Ao,if_pos (by unfold EN;rw [e];rfl)]
 split
 ·exact hL.LN o s h ‹_› U
 ·unfold Fv
  rw [Rd.wp_seq,Rd.Ao,if_pos e,Rd.wp_seq]
  unfold Rd.wp
  rw [Cu hz]
  exact (hL.oC _ h1 U).seq
theorem ZO (hL:CH L):Em (Hk L o):=fun s U=>.look (.Xn U SL (fun r e=>by
 have hz:=Ds (KJ e).1
 obtain ⟨h1,h2⟩:=U.sec r hz
 rw [h2]
 have hsec:SP (.seq A7 fun p=>.seq A7 fun c=>.ret (AD 3 [o,p,c])) (.seq A7 fun p=>.seq A7 fun c=>.ret (AD 3 [o,p,c])) s∨¬Rl (Ad s).2.1:=by
  by_cases r2:Rl (Ad s).2.1
  ·refine .inl (.nJ (.tk U r) fun v s1 hv p1=>?_)
   rw [Cu hz] at hv
   cases hv
   exact .seq (.tk p1 r2) fun c s2 p2=>.ret p2
  ·exact .inr r2
 rcases h1.cases with ⟨t,ht⟩|e2
 ·have r2:Rl (Ad s).2.1:=⟨t,ht⟩
  refine .ite ?_ (fun _=>hsec.resolve_right fun n=>n r2) (fun _=>QE hL s U)
  unfold Ba
  rw [h1.same r2]
 ·have n1:Ba (Ad s).2.1 15 [41]=false:=h1.nq e2 (by decide)
  rw [n1,if_neg (by decide)]
  exact .fa (VC hL U r e e2)) (QE hL s U))
theorem di (hL:CH L) (hs:Pl s) (r:Rl s):SP (GK L) (GK L) s:=.seq (.tk hs r) fun o s1 U=>.look (.pG U (fun _=>XY s1 U) (.is U (by decide) (by decide) (fun _=>XY s1 U) (ZO hL s1 U)) fun e=>.fa (by
 rw [if_neg (by rw [U.nq e (by decide)];decide)]
 unfold Fa Hk
 rw [Rd.Ao,if_neg (by rw [U.no e SL.toTst0];decide)]
 exact ZV hL s1 U e))
theorem ZP (hL:CH L) (hs:Pl s) (r:Rl s):SP (Gm L) (Gm L) s:=.seq (.tk hs r) fun o s1 U=>.look (.is U (by decide) (by decide) (fun r=>.seq (.tk U r) fun c s2 h2=>.ret h2) (hL.list o s1 U))
theorem ja (hL:CH L):Em (Gt L):=fun s U=>.look (.Xn U N5 (fun r _=>CU.ik (fun t=>t.kind==15) U r (fun _=>CU.ik (fun t=>t.text==[40]) U r (fun _=>di hL U r) fun _=>ZP hL U r)
 fun _=>CU.ik (fun t=>t.kind==9) U r (fun _=>.seq (.tk U r) fun w s1 h1=>.ret h1) fun _=>CU.ik (fun t=>t.kind==10) U r (fun _=>.seq (.tk U r) fun w s1 h1=>.seq (hL.atom s1 h1) fun a s2 h2=>.ret h2)
 fun _=>.seq (.tk U r) fun n s1 h1=>.ite (by rw [U.same r]) (fun _=>.look (.is h1 (by decide) (by decide) (fun r=>.seq (.tk h1 r) fun w s2 h2=>.seq (hL.atom s2 h2) fun a s3 h3=>.ret h3) (.ret h1))) fun _=>.ret h1) .bad)
theorem QC {X:Sum (List Nd) (List Nd)→Ae→Prop} {l:List Nd} (hL:CH L) (hs:Pl s):CU X (Ji L l) (Ji L l) s:=.seq (XZ rfl rfl s hs) fun nm s1 h1=>.seq (CX (by decide) s1 h1) fun q s2 h2=>.seq (hL.exp s2 h2) fun e s3 U=>
 .look (.is U (by decide) (by decide) (fun r=>.seq (.tk U r) fun c s4 h4=>.ret h4) (.ret U))
theorem ZN {n:Nd} (hL:CH L) (U:Pl s) (r:Rl s):SP (FO L n) (FO L n) s:=.seq (.tk U r) fun b s1 h1=>.seq (CU.loop (body:=NS L) (fun l s U=>.look (.is U (by decide) (by decide) (fun _=>.ite Iff.rfl (fun _=>QC hL U) fun _=>.ret U) (QC hL U))) [n,b] s1 h1)
 fun l s2 h2=>.seq (CX (by decide) s2 h2) fun c s3 h3=>.ret h3
theorem RA (hL:CH L):Em (FU L):=fun s U=>.seq (ja hL s U) fun n s1 h1=>CU.loop (body:=XE L) (fun n s U=>.look (.is U (by decide) (by decide) (fun r=>.seq (ZN hL U r) fun n s1 h1=>.ret h1) (.ret U))) n s1 h1
theorem db (hA:Em A) (hH:H0 A) (hB:Em B) (hC:Em C):Em (BU A B C o):=fun s hs=>.nJ (Vv hA hH s hs) fun p s1 hp U=>.ite Iff.rfl (fun e=>.seq (.tk U (U.has (p:=fun t=>t.kind==15&&t.text==[41]) (IH (by decide)) (kG hp e).2.1)) fun c s2 h2=>.ret h2)
 fun _=>.seq (OL hB s1 U) fun e s2 h2=>.seq (CU.loop (body:=PW C) (fun l s hs=>.look (.is hs (by decide) (by decide) (fun r=>.seq (.tk hs r) fun c s1 U=>.seq (hC s1 U) fun e s2 h2=>.ret h2) (.ret hs))) (4,[o,e]) s2 h2) fun q s3 h3=>.seq (CX (by decide) s3 h3) fun c s4 h4=>.ret h4
theorem ZM (hB:Em B) {l:List Nd}:Em (.loop (Jw B) l):=CU.loop (body:=Jw B) (fun l s U=>.look (.is U (by decide) (by decide) (fun r=>.seq (.tk U r) fun c s1 h1=>.seq (hB s1 h1) fun e s2 h2=>.ret h2) (.ret U))) l
theorem Tz (h:Fa (Ed A true) s):Fa (BU A B C o) s:=h.seq
theorem Tq (U:Em B) {l:List Nd}:Em (Ek B l):=fun s hs=>.seq (CX (by decide) s hs) fun b s1 h1=>.seq (U s1 h1) fun t s2 h2=>ZM U s2 h2
theorem To {X:Sum (List Nd) (Int×List Nd)→Ae→Prop} {l:List Nd} (hA:Em A) (U:Pl s):CU X (MQ A l) (MQ A l) s:=.look (.is U (by decide) (by decide) (fun r=>.seq (.tk U r) fun c s1 h1=>.seq (hA s1 h1) fun e s2 h2=>.ret h2) (.ret U))
theorem jd (hA:Em A) (hB:Em B):Em (Lk A B o):=fun s hs=>.seq (hA s hs) fun e s1 U=>.look (.is U (by decide) (by decide) (fun _=>.seq (Tq hB s1 U) fun l s2 h2=>.seq (CX (by decide) s2 h2) fun c s3 h3=>.ret h3)
 (.seq (CU.loop (body:=Yn A) (fun l s hs=>.ite Iff.rfl (fun _=>.look (.is hs (by decide) (by decide) (fun r=>.seq (.tk hs r) fun d s1 U=>.look (.is U (by decide) (by decide) (fun _=>.ret U) (.seq (hA s1 U) fun e s2 h2=>.ret h2))) (To hA hs))) fun _=>To hA hs) [o,e] s1 U) fun q s2 h2=>.seq (CX (by decide) s2 h2) fun c s3 h3=>.ret h3))
theorem XW {n:Nd} (hA:Em A):Em (MC A n):=fun s U=>.look (.is U (by decide) (by decide) (fun r=>.ite Iff.rfl (fun _=>.seq (.tk U r) fun c s1 h1=>.seq (hA s1 h1) fun e s2 h2=>.ret h2) fun _=>.fail) (.ret U))
theorem jg (hL:CH L) (hA:Em A):Em (M5 L A):=fun s hs=>.look (.is hs (by decide) (by decide) (fun r=>.seq (.tk hs r) fun t s1 U=>.seq (hL.decls s1 U) fun b s2 h2=>.look (.is h2 (by decide) (by decide) (fun _=>.seq (Tp hL s2 h2) fun n s3 h3=>XW hA s3 h3) (.ret h2))) (.seq (hA s hs) fun n s1 U=>XW hA s1 U))
theorem QD {X:Sum (List Nd) (List Nd)→Ae→Prop} {m:List UInt8} {l:List Nd} (hA:Em A) (hB:Em B) (hs:Pl s):CU X (Ig A B m l) (Ig A B m l) s:=.seq (Tq hB s hs) fun g s1 U=>.seq (CX (by decide) s1 U) fun q s2 h2=>.seq (hA s2 h2) fun e s3 h3=>.ret h3
theorem X2 (hL:CH L) (hA:Em A) (hB:Em B) {m:List UInt8} {l:List Nd}:Em (Un L A B m l):=fun s U=>.seq (CU.loop (body:=O3 A B m) (fun l s U=>.ite Iff.rfl (fun _=>QD hA hB U) fun _=>.ite Iff.rfl (fun _=>.look (.is U (by decide) (by decide) (fun _=>QD hA hB U) (.ret U))) fun _=>.ret U) l s U)
 fun l s1 h1=>.look (.is h1 (by decide) (by decide) (fun r=>.seq (.tk h1 r) fun w s2 h2=>.seq (hL.decls s2 h2) fun b s3 h3=>.ret h3) (.ret h1))
theorem dh (hL:CH L) (hA:Em A) (hB:Em B) {m:List UInt8}:Em (Ss L A B m):=fun s U=>(.look (.is U (by decide) (fun e=>absurd e.1 (by decide)) (fun r=>.seq (.tk U r) fun a s1 h1=>.seq (hA s1 h1) fun e s2 h2=>X2 hL hA hB s2 h2) (.is U (by decide) (by decide) (fun _=>X2 hL hA hB s U) .bad)))
theorem mz (hL:CH L) (hA:Em A) (hB:Em B) (hC:Em C):Em (SV L A B C):=fun s hs=>.seq (hA s hs) fun n s1 U=>.ite Iff.rfl (fun _=>.seq (dh hL hB hC s1 U) fun r s2 h2=>.ret h2) fun _=>.fail
theorem OK {l:List Nd}:Em (JR l):=fun s U=>.seq (Hv (NB s U)) fun o s1 h1=>.seq (CU.loop (body:=ND) (fun l s U=>.look (.is U (by decide) (by decide) (fun r=>.seq (.tk U r) fun c s1 h1=>.seq (Hv (NB s1 h1)) fun o s2 h2=>.ret h2) (.ret U))) (l++[o]) s1 h1) fun l s2 h2=>.ret h2
theorem ZK (hs:Pl s) (r:Rl s):SP Ie Ie s:=.seq (.tk hs r) fun f s1 U=>.look (CU.Xn (p:=fun t=>t.kind==11) U (PT (by decide)) (fun r _=>.seq (Hv (.tk U r)) fun d s2 h2=>OK s2 h2) (OK s1 U))
theorem dk {n:Nd} (hA:Em A) (hB:Em B):Em (Sx A B n):=fun s U=>.ite Iff.rfl (fun _=>.seq (CU.loop (body:=kK A) (fun l s U=>.look (.is U (by decide) (by decide) (fun r=>.seq (.tk U r) fun c s1 h1=>.seq (Hv (hA s1 h1)) fun o s2 h2=>.ret h2) (.ret U))) [n] s U) fun l s1 h1=>
 .seq (CX (by decide) s1 h1) fun c s2 h2=>.seq (hB s2 h2) fun t s3 h3=>.ret h3) fun _=>.fail
theorem jc (hL:CH L) (hA:Em A) (hB:Em B) (hC:Em C) (hD:Em D) (hE:Em E):Em (MG L A B C D E):=fun s hs=>.look (.Xn hs kZ (fun r _=>ZK hs r) (.seq (hB s hs) fun n s1 U=>.look (.is U (by decide) (by decide) (fun _=>dk hA hE s1 U)
 (.is U (by decide) (by decide) (fun _=>dk hA hE s1 U) (.ite Iff.rfl (fun _=>.seq (dh hL hC hD s1 U) fun r s2 h2=>.ret h2) fun _=>.fail)))))
theorem dj:Em PD:=CU.loop (body:=PB) (fun l s U=>.look (.Xn U PU (fun r _=>.seq (K9 U r) fun _ s1 h1=>.ret h1) (.ret U))) ()
theorem dc {X:Unit→Ae→Prop} (hs:Pl s):CU X Ky Ky s:=fun v s' e=>by
 have U:(DH s).2=false:=by unfold DH;rw [if_neg (fun h=>h.2.2 hs.top)]
 have:Ky.run s=.inl (⟨P1 s,Nu s⟩,s):=by
  show (if (DH s).2=true then _ else _)=_
  rw [U,if_neg (by decide)]
 rw [this] at e;cases e
theorem Tn {f m m':Bool} (e:m'=m) (U:Pl s):SP (Ia f m) (Ia f m') s:=by
 subst e
 cases f with
 |true=>exact .look (.is U (by decide) (by decide) (fun r=>.seq (K9 U r) fun _ s1 h1=>.ret h1) (.ite Iff.rfl (fun _=>.ite Iff.rfl (fun _=>.bad) (fun e=>absurd rfl e)) fun _=>.ret U))
 |false=>exact .look (CU.Xn (p:=fun t=>t.kind==20) U (PT (by decide)) (fun r _=>.seq (K9 U r) fun _ s1 h1=>.ret h1) (.ite Iff.rfl (fun _=>.ite Iff.rfl (fun e=>Bool.noConfusion e) (fun _=>.seq (dc U) fun _ s1 h1=>.ret h1)) fun _=>.ret U))
theorem OJ {p:Tk→Bool} (hp:U8 p) (hA:Em A):Em (Da p A):=by
 have hb:∀f l,Em (.loop (F7 p A f) l):=fun f l=>CU.loop (body:=F7 p A f) (fun l s hs=>.seq (dj s hs) fun _ s1 U=>.look (.seq (Tn (by rw [U.test hp]) U) fun e s2 h2=>.ite Iff.rfl (fun _=>.ret h2) fun _=>
  .seq (hA s2 h2) fun n s3 h3=>.look (.seq (Tn (by rw [h3.test PU]) h3) fun e s4 h4=>.ite Iff.rfl (fun _=>.ret h4) fun _=>.ret h4))) l
 exact fun s hs=>.look (CU.Xn (p:=fun t=>t.kind==18) hs (PT (by decide)) (fun r _=>.seq (K9 hs r) fun _ s1 U=>.seq (hb _ _ s1 U) fun l s2 h2=>.ret h2) (.seq (CX (by decide) s hs) fun _ s1 U=>.seq (hb _ _ s1 U) fun l s2 h2=>.ret h2))
end
section
variable {A:Rd Nd} {L:Eo}
theorem L4 (U:CH L):Em (GI L):=Vu U (RA U)
theorem DE:H0 (GI L):=dW ZZ
theorem JP (U:Em A) (hL:CH L):Em (Hb A L):=mA (L4 hL) DE U
theorem La (hA:Em A) (U:CH L):Em (JB A L):=jg U (JP hA U)
theorem iZ (hA:Em A) (U:CH L):Em (bR A L):=mz U (RB (L4 U) DE) (JP hA U) (La hA U)
theorem dd (hA:Em A) (U:CH L):Em (K3 A L):=jc U (RA U) (RB (L4 U) DE) (JP hA U) (La hA U) hA
theorem ot (hA:Em A) (U:CH L):CH (oV A L) where
 atom:=RA U
 exp:=JP hA U
 ops:=RB (L4 U) DE
 decls:=OJ bz (dd hA U)
 stmts:=OJ SJ (La hA U)
 alts:=OJ SJ (iZ hA U)
 Dz:=fun o=>db (L4 U) DE hA (JP hA U)
 list:=fun o=>jd (JP hA U) (La hA U)
 oC:=dX DE
 hb:=fun o s h e=>show Fa (BU (GI L) A (Hb A L) o) s from Tz (TG DE s h e)
 LN:=fun o s h e e2=>show Fa (BU (GI L) A (Hb A L) o) s from Tz (QI DE h e e2)
theorem de:∀d,CH (EP d)
 |0=>⟨fun _ _=>.fail,fun _ _=>.fail,fun _ _=>.fail,fun _ _=>.fail,fun _ _=>.fail,fun _ _=>.fail,fun _ _ _=>.fail,fun _ _ _=>.fail,fun _ _ _=>trivial,fun _ _ _ _=>trivial,fun _ _ _ _ _=>trivial⟩
 |d+1=>ot (XX _) (de d)
end
section
variable {α β σ:Type} {s s1:Ae}
theorem run_seq {m:Rd α} {k:α→Rd β} {v:α} (h:m.run s=.inr (v,s1)):(Rd.seq m k).run s=(k v).run s1:=by
 unfold Rd.seq
 dsimp only
 rw [h]
theorem F0 {f:Ae→Rd α}:(Rd.look f).run s=(f s).run s:=rfl
theorem Jy {body:σ→Rd (Sum σ α)} {x:σ} {y:α} (h:(body x).run s=.inr (.inr y,s1)):(Rd.loop body x).run s=.inr (y,s1):=by
 show Rd.iter body x s=_
 rw [Rd.iter,h]
theorem gO {m:Rd α} {v:α} {Q:α→Ae→Prop} {E:Er→Ae→Prop} (h:m.run s=.inr (v,s1)) (k:Q v s1):Rd.wp m s Q E:=by
 unfold Rd.wp
 rw [h];exact k
end
section
variable {L:Eo} {A B C:Rd Nd} {s s':Ae} {o n:Nd}
theorem jv (h:B3 (Ad s).1=false):Fa (Gt L) s:=by
 unfold Fa Gt
 rw [Rd.Ao,if_neg (by rw [h];decide)]
 exact trivial
theorem VB (h:BO (Ad s).1=false):Fa (GI L) s:=by
 have ha:B3 (Ad s).1=false:=by
  unfold BO at h
  simp only [Bool.or_eq_false_iff] at h
  exact h.2
 have hx:Fa (F6 (FU L)) s:=((jv ha).seq).seq
 unfold BO at h
 simp only [Bool.or_eq_false_iff,Bool.and_eq_false_iff] at h
 obtain ⟨⟨⟨h1,U⟩,h3⟩,_⟩:=h
 show Rd.wp (Df L (FU L)) s (fun _ _=>False) (fun _ _=>True)
 unfold Df
 rw [Rd.Ao]
 split
 ·rename_i e
  rw [e] at U
  have U:=U.resolve_left (by decide)
  rw [if_neg (by rw [U];decide)]
  exact hx
 ·split
  ·rename_i e
   rw [e] at h1
   obtain ⟨⟨⟨h4,h5⟩,h6⟩,h7⟩:=h1.resolve_left (by decide)
   rw [if_neg (by rw [h4];decide),if_neg (by rw [h5];decide),if_neg (by rw [h6];decide),if_neg (by rw [h7];decide)]
   exact hx
  ·exact hx
theorem Pg {l:List Nd} (h:Ba s 5 [45]=false):(Iq l).run s=.inr (l,s):=Jy (by
 show (if Ba s 5 [45]=true then (Rd.seq A7 fun t=>.ret (.inl (l++[AD 19 [t]]))) else .ret (.inr l):Rd (Sum (List Nd) (List Nd))).run s=_
 rw [h];rfl)
theorem RP {s:Ae} (h:Ba s 15 [41]=true):Ba s 5 [45]=false∧BO (Ad s).1=false:=by
 unfold Ba at h ⊢
 simp only [Bool.and_eq_true,beq_iff_eq] at h
 unfold BO B3
 rw [h.1,h.2]
 exact ⟨rfl,rfl⟩
theorem X7 {b:Bool} {l:List Nd} (h:Ba s 5 [45]=false) (U:Fa A s):Fa (.loop (GL A b) l) s:=by
 unfold Fa
 rw [Rd.wp_loop]
 unfold GL
 rw [Rd.wp_seq]
 refine gO (Pg h) ?_
 rw [Rd.wp_seq]
 exact Rd.wp_mono U (fun _ _ _ f=>f.elim) (fun _ _ _ _=>trivial)
theorem nG (hA:∀s,Ba s 15 [41]=true→Fa A s) (x:List Nd) (s:Ae):∀p s',Rd.iter (GL A false) x s=.inr (p,s')→Rd.iter (GL A true) x s=.inr ((p.1,false),s'):=by
 have hb:∀{x:List Nd} {s:Ae} {r:Sum (List Nd) (List Nd×Bool)} {s1:Ae},(GL A false x).run s=.inr (r,s1)→(match r with
  | .inr y=>(GL A true x).run s=.inr (.inr (y.1,false),s1)
  | .inl x'=>Ba s1 15 [41]=true∨(GL A true x).run s=.inr (.inl x',s1)):=by
  intro x s r s1 h
  obtain ⟨l,s2,U,h⟩:=BG h
  obtain ⟨n,s3,h2,h⟩:=BG h
  have e:(GL A true x).run s=(if EN (Ad s3).1=true then Rd.seq Fv fun o=>.look fun s=>if Ba s 15 [41]=true then .ret (.inr (l++[n]++[o],true)) else .ret (.inl (l++[n]++[o])) else .ret (.inr (l++[n],false)):Rd (Sum (List Nd) (List Nd×Bool))).run s3:=by
   unfold GL
   rw [run_seq U,run_seq h2];rfl
  rw [e]
  replace h:(if EN (Ad s3).1=true then Rd.seq Fv fun o=>.ret (.inl (l++[n]++[o])) else .ret (.inr (l++[n],false)):Rd (Sum (List Nd) (List Nd×Bool))).run s3=.inr (r,s1):=h
  split at h
  ·rename_i hi
   rw [if_pos hi]
   obtain ⟨w,s4,h4,h⟩:=BG h
   cases h
   by_cases hc:Ba s1 15 [41]=true
   ·exact .inl hc
   ·right
    rw [run_seq h4,F0,if_neg hc];rfl
  ·rename_i hi
   rw [if_neg hi]
   cases h;rfl
 fun_induction Rd.iter (GL A false) x s with
 |case1 x s p U=>intro p s' e;cases e
 |case2 x s y s1 U=>
  intro p s' e
  cases e
  rw [Rd.iter,hb U]
 |case3 x s x' s1 U hlt ih=>
  intro p s' e
  rcases hb U with h2|h2
  ·exact ((X7 (b:=false) (l:=x') (RP h2).1 (hA _ h2)).no (v:=p) (s':=s') e).elim
  ·rw [Rd.iter,h2]
   dsimp only
   rw [if_pos hlt]
   exact ih p s' e
 |case4 x s x' s1 U hlt=>intro p s' e;cases e
theorem W5 {b:Bool} {p:List Nd×Bool} (h:(Ed (GI L) b).run s=.inr (p,s')):BO (Ad s).1=true∧(Ba s 5 [45]=true→¬Ba (Ad s).2.1 15 [41]=true):=by
 constructor
 ·cases hb:BO (Ad s).1 with
  |true=>rfl
  |false=>
   have U:Ba s 5 [45]=false:=by
    unfold BO at hb
    simp only [Bool.or_eq_false_iff] at hb
    exact hb.1.2
   exact ((X7 (b:=b) (l:=[]) U (VB (L:=L) hb)).no h).elim
 ·intro e hc
  have hz:=GC e (by decide)
  have U:=CJ e (by decide) (by decide)
  obtain ⟨h1,h2⟩:=RP hc
  have hf:Fa (Ed (GI L) b) s:=by
   unfold Fa Ed
   rw [Rd.wp_loop]
   unfold GL
   rw [Rd.wp_seq]
   have hb:(Iq []).run s=.inr ([]++[AD 19 [AJ (Ad s).1]],(Ad s).2.1):=by
    show Rd.iter Ip [] s=_
    have hb:(Ip []:Rd (Sum (List Nd) (List Nd))).run s=.inr (.inl ([]++[AD 19 [AJ (Ad s).1]]),(Ad s).2.1):=by
     show (if Ba s 5 [45]=true then (Rd.seq A7 fun t=>Rd.ret (Sum.inl ([]++[AD 19 [t]]))) else Rd.ret (Sum.inr []):Rd (Sum (List Nd) (List Nd))).run s=_
     rw [if_pos e,run_seq (Cu hz)];rfl
    rw [Rd.iter,hb]
    dsimp only
    rw [if_pos U]
    exact Pg h1
   refine gO hb ?_
   rw [Rd.wp_seq]
   exact Rd.wp_mono (VB h2) (fun _ _ _ f=>f.elim) (fun _ _ _ _=>trivial)
  exact hf.no h
theorem Zi (h:BO (Ad s).1=true):Ba s 15 [41]=false∧Ba s 15 [44]=false∧(EN (Ad s).1=true→Ba s 5 [45]=true):=by
 have hk:∀{k:Int} {x:List UInt8},Ba s k x=true→(Ad s).1.kind=k∧(Ad s).1.text=x:=fun {k x} e=>by
  unfold Ba at e;simpa using e
 refine ⟨?_,?_,?_⟩
 ·cases e:Ba s 15 [41] with
  |false=>rfl
  |true=>rw [(RP e).2] at h;cases h
 ·cases e:Ba s 15 [44] with
  |false=>rfl
  |true=>
   obtain ⟨U,h2⟩:=hk e
   unfold BO B3 at h
   rw [U,h2] at h
   exact absurd h (by decide)
 ·intro hi
  unfold Ba
  unfold EN IE at hi
  unfold BO B3 at h
  simp only [Bool.or_eq_true,Bool.and_eq_true,beq_iff_eq] at hi h ⊢
  rcases hi with ((((k|k)|k)|k)|⟨k,t⟩)|⟨k,t⟩
  ·rcases h with ((h|h)|h)|h
   ·omega
   ·omega
   ·exact h
   ·omega
  all_goals exfalso
  all_goals first
   |(rw [k] at h;simp at h;done)
   |(rw [k,t] at h;simp [bC,oZ,UT,oX] at h;done)
end
theorem dw {s:Ae} (h:s.pos=s.Ak.length) (U:s.CG=[]) (hw:s.wait=0):Ad s=(pb,s,0):=by
 have hm:Hh s=true:=by
  unfold Hh
  rw [hw,U,decide_eq_true (show 0≤s.pos by omega),decide_eq_true (show s.pos≤s.Ak.length by omega)];rfl
 unfold Ad
 rw [if_pos hm,Mk (by omega) (by omega)]
 unfold FW
 rw [if_pos U]
theorem du {s:Ae} (h:Ad s=(pb,s,0)) {k:Int} {x:List UInt8} (U:k≠21):Ba s k x=false:=by
 unfold Ba
 rw [h]
 show ((21:Int)==k&&_)=false
 rw [beq_eq_false_iff_ne.2 fun e=>U e.symm];rfl
theorem ZU {d:Nat} {l:List Tk} {n:Nd} {s':Ae} (hd:1≤d) (hl:∀t ∈ l,0<t.kind∧t.kind<16) (h:(Ni d).run ⟨l,0,[],0⟩=.inr (n,s')) (hp:s'.pos=l.length) (ho:s'.CG=[]):
 (Ni (d+1)).run ⟨Fo::(l++[Fx]),0,[],0⟩=.inr (AD 4 [AJ Fo,n,AJ Fx],⟨Fo::(l++[Fx]),((Fo::(l++[Fx])).length:Nat),[],0⟩):=by
 obtain ⟨d,rfl⟩:∃e,d=e+1:=⟨d - 1,by omega⟩
 have h0:Pl ⟨l,0,[],0⟩:=⟨hl,Int.le_refl _,by show (0:Int)≤(l.length:Int);omega,(fun x hx=>by cases hx),rfl⟩
 have hL:=de d
 have hopd:=L4 hL
 have hF:=XX (d+1)
 obtain ⟨m,s2,h1,h2⟩:=BG (show (Rd.seq (Pv (GI (EP d))) fun n=>Gc (Ee (d+1)) n).run ⟨l,0,[],0⟩=.inr (n,s') from h)
 obtain ⟨p,s1,h3,h4⟩:=BG (show (Rd.seq (Ed (GI (EP d)) false) fun p=>.ret (Qh 17 p.1)).run ⟨l,0,[],0⟩=.inr (m,s2) from h1)
 cases h4
 obtain ⟨hb1,LN⟩:=W5 h3
 obtain ⟨n1,n2,n3⟩:=Zi hb1
 have r3:(Ed (GI (EP d)) true).run ⟨l,0,[],0⟩=.inr ((p.1,false),s2):=nG (fun s hs=>VB (RP hs).2) [] _ p s2 h3
 obtain ⟨q1,e3|e3⟩:=Vv (b:=true) hopd DE _ h0 _ _ r3
 ·exact e3.elim
 obtain ⟨q2,e2|e2⟩:=OL hF _ q1 _ _ h2
 ·exact e2.elim
 have hR:Rl ⟨l,0,[],0⟩:=h0.has SJ.toTst0 hb1
 have hz:(Ad ⟨l,0,[],0⟩).2.2=0:=Ds (by
  intro e
  unfold BO B3 at hb1
  rw [e] at hb1
  simp at hb1)
 obtain ⟨g1,g2⟩:=h0.sec hR hz
 have g3:=h0.same hR
 have htk:s'.Ak=l:=(((show Dv (Ni (d+1)) from H9 (Je _) (OE _)).at h).ps (fun t ht=>by have:=(hl t ht).2;omega)).tk
 have hem:DL s'=⟨Fo::(l++[Fx]),(l.length:Nat)+1,[],0⟩:=by
  unfold DL
  rw [htk,hp,ho,q2.wt]
 have e5:Ad (DL s')=(Fx,{DL s' with pos:=(DL s').pos+1},0):=q2.mI (by rw [hp,htk])
 have hT:({DL s' with pos:=(DL s').pos+1}:Ae)=⟨Fo::(l++[Fx]),((Fo::(l++[Fx])).length:Nat),[],0⟩:=by
  rw [hem]
  show (⟨_,((l.length:Nat):Int)+1+1,[],0⟩:Ae)=_
  congr 1
  rw [List.length_cons,List.length_append,List.length_singleton];omega
 generalize hTe:(⟨Fo::(l++[Fx]),((Fo::(l++[Fx])).length:Nat),[],0⟩:Ae)=T at hT ⊢
 have U:Ad T=(pb,T,0):=by rw [←hTe];exact dw rfl rfl rfl
 have e4:(Rd.loop (PW (Hb (Ee (d+1)) (EP d))) (4,[AJ Fo,n])).run (DL s')=.inr ((4,[AJ Fo,n]),DL s'):=Jy (by
  show (if Ba (DL s') 15 [44]=true then _ else _:Rd (Sum (Int×List Nd) (Int×List Nd))).run (DL s')=_
  rw [if_neg (by unfold Ba;rw [e5];exact Bool.false_ne_true)];rfl)
 have e6:(Cd 15 [41]).run (DL s')=.inr (AJ Fx,T):=by
  show (if Ba (DL s') 15 [41]=true then A7 else P2).run (DL s')=_
  rw [if_pos (by unfold Ba;rw [e5];rfl),Cu (by rw [e5]),e5,hT]
 have e7:(BU (GI (EP d)) (Ee (d+1)) (Hb (Ee (d+1)) (EP d)) (AJ Fo)).run (DL ⟨l,0,[],0⟩)=.inr (AD 4 [AJ Fo,n,AJ Fx],T):=by
  unfold BU
  rw [run_seq e3,if_neg Bool.false_ne_true,run_seq e2,run_seq e4,run_seq e6];rfl
 have e8:(Fi (EP (d+1)) (AJ Fo)).run (DL ⟨l,0,[],0⟩)=.inr (AD 4 [AJ Fo,n,AJ Fx],T):=by
  unfold Fi
  rw [F0]
  by_cases hi:EN (Ad (DL ⟨l,0,[],0⟩)).1=true
  ·rw [if_pos hi,if_pos (by rw [h0.is (by decide) (by decide)];exact n3 (by rw [←g3];exact hi))]
   exact e7
  ·rw [if_neg hi];exact e7
 have e9:(Hk (EP (d+1)) (AJ Fo)).run (DL ⟨l,0,[],0⟩)=.inr (AD 4 [AJ Fo,n,AJ Fx],T):=by
  unfold Hk
  rw [F0]
  by_cases hi:IE (Ad (DL ⟨l,0,[],0⟩)).1=true
  ·have hs:Ba ⟨l,0,[],0⟩ 5 [45]=true:=n3 (by unfold EN;rw [←g3,hi];rfl)
   have hcl:Ba (Ad (DL ⟨l,0,[],0⟩)).2.1 15 [41]=false:=by
    rw [g2]
    rcases g1.cases with ⟨t,ht⟩|he
    ·unfold Ba
     rw [g1.same ⟨t,ht⟩]
     exact Bool.eq_false_iff.2 (LN hs)
    ·exact ((QI (b:=false) DE h0 hs he).no h3).elim
   rw [if_pos hi,if_neg (by rw [hcl];decide)]
   exact e8
  ·rw [if_neg hi];exact e8
 have hn0:Ad ⟨Fo::(l++[Fx]),0,[],0⟩=(Fo,DL ⟨l,0,[],0⟩,0):=by
  have hm:Hh ⟨Fo::(l++[Fx]),0,[],0⟩=true:=by
   unfold Hh
   dsimp only
   rw [decide_eq_true (show (0:Int)≤((Fo::(l++[Fx])).length:Int) by omega)];rfl
  unfold Ad
  rw [if_pos hm,GF (t:=Fo) rfl (Int.le_refl _)]
  rfl
 have i0:∀{k:Int} {x:List UInt8},Ba ⟨Fo::(l++[Fx]),0,[],0⟩ k x=((15:Int)==k&&([40]:List UInt8)==x):=fun {k x}=>by unfold Ba;rw [hn0]
 have e10:(GK (EP (d+1))).run ⟨Fo::(l++[Fx]),0,[],0⟩=.inr (AD 4 [AJ Fo,n,AJ Fx],T):=by
  unfold GK
  rw [run_seq (Cu (by rw [hn0])),hn0,F0]
  dsimp only
  have hcl:Ba (DL ⟨l,0,[],0⟩) 15 [41]=false:=by
   unfold Ba
   rw [g3];exact n1
  rw [if_neg (by rw [hcl];decide),if_neg (by rw [h0.is (by decide) (by decide),n2];decide)]
  exact e9
 have e11:(Gt (EP (d+1))).run ⟨Fo::(l++[Fx]),0,[],0⟩=.inr (AD 4 [AJ Fo,n,AJ Fx],T):=by
  unfold Gt
  rw [F0,hn0]
  exact e10
 have e12:(FU (EP (d+1))).run ⟨Fo::(l++[Fx]),0,[],0⟩=.inr (AD 4 [AJ Fo,n,AJ Fx],T):=by
  unfold FU
  rw [run_seq e11]
  exact Jy (by
   show (if Ba T 15 [123]=true then _ else _:Rd (Sum Nd Nd)).run T=_
   rw [if_neg (by rw [du U (by decide)];decide)];rfl)
 have e13:(GI (EP (d+1))).run ⟨Fo::(l++[Fx]),0,[],0⟩=.inr (AD 4 [AJ Fo,n,AJ Fx],T):=by
  unfold GI Df
  rw [F0,hn0]
  show (F6 (FU (EP (d+1)))).run _=_
  unfold F6
  rw [run_seq e12,run_seq (Jy (s1:=T) (y:=[AD 4 [AJ Fo,n,AJ Fx]]) (by
   show (if B3 (Ad T).1=true then _ else _:Rd (Sum (List Nd) (List Nd))).run T=_
   rw [U];rfl))]
  rfl
 show (Rd.seq (Rd.seq (Ed (GI (EP (d+1))) false) fun p=>.ret (Qh 17 p.1)) fun n=>Gc (Ee (d+2)) n).run _=_
 have e14:(Ed (GI (EP (d+1))) false).run ⟨Fo::(l++[Fx]),0,[],0⟩=.inr (([AD 4 [AJ Fo,n,AJ Fx]],false),T):=Jy (by
  unfold GL
  rw [run_seq (Pg (by rw [i0];decide)),run_seq e13,F0,U];rfl)
 rw [run_seq (show (Rd.seq (Ed (GI (EP (d+1))) false) fun p=>.ret (Qh 17 p.1)).run _=.inr (AD 4 [AJ Fo,n,AJ Fx],T) by rw [run_seq e14];rfl)]
 unfold Gc
 rw [F0,if_neg (by rw [du U (by decide)];decide)];rfl
end Go.Proofs.YtkidoddkbhchkaaGreatDoor
namespace Go.Aw
theorem oa {a:Int} {K:Int→Prop} (k:∀d,0≤d→d≤63→K d):∃r,r=IntKind.i64.wrap ((BitVec.ofInt IntKind.i64.bits a&&&BitVec.ofInt IntKind.i64.bits 63).toNat:Int)∧K r:=by
 have hb:(BitVec.ofInt IntKind.i64.bits a&&&BitVec.ofInt IntKind.i64.bits 63).toNat≤63:=by
  rw [BitVec.toNat_and]
  exact Nat.and_le_right
 generalize (BitVec.ofInt IntKind.i64.bits a&&&BitVec.ofInt IntKind.i64.bits 63).toNat=v at hb
 refine ⟨_,rfl,?_⟩
 have:IntKind.i64.wrap (v:Int)=(v:Int):=by
  revert v
  decide
 rw [this]
 exact k _ (by omega) (by omega)
end Go.Aw
namespace Go.Proofs.YtkidoddkbhchkaaGreatDoor
open Go Go.Aw
section
variable {st:St} {R:AM→St→Prop}
attribute [local irreducible] Go.Aw.Ai
theorem OQ {s:List UInt8} {deep:Int} (h:∀st',R (.ret (.bool true)) st'):PC 10 [.str s,.int .i64 deep] st R:=by
 refine Aa Ac [] Tryz.func10 rfl (by decide) ?_
 repeat' ((conv=>whnf);first|exact Cq|(refine Bc ?_;intros)|(refine Cr ?_ ?_ ?_;rotate_left)|(refine Be ?_ ?_<;>intro _)|refine Gw (fun st1 hle1=>?_)|refine oa (fun d hd0 hd1=>?_)|with_reducible refine WF ?_)
 cases e:Fs s with
 |inl q=>
  obtain ⟨i,e'⟩:=q
  have he:=ev e
  repeat' ((conv=>whnf);first|exact Cq|(refine Bc ?_;intros)|(refine Cr ?_ ?_ ?_;rotate_left)|(refine Be ?_ ?_<;>intro _)|refine oJ e (fun st2 U=>?_)|refine WJ (fun _=>?_)|with_reducible refine WF ?_)
  all_goals exact fin (h _) rfl
 |inr x=>
  by_cases hs:(s.length:Int)>2000
  ·skip
   repeat' ((conv=>whnf);first|exact Cq|(refine Bc ?_;intros)|(refine Cr ?_ ?_ ?_;rotate_left)|(refine Be ?_ ?_<;>intro _)|refine TT e (fun w1 w2 st2 U=>?_)|refine WJ (fun _=>?_)|with_reducible refine WF ?_)
   all_goals exact fin (h _) rfl
  ·have hlen:=(ew e).1
   have hkd:=jS e
   have hm:mu ⟨x.Ak,0,[],0⟩≤100000000:=by unfold mu;simp only [List.length_nil];omega
   generalize hq:Bz ⟨x.Ak,0,[],0⟩ d (EA (Ni (DK d)) ⟨x.Ak,0,[],0⟩)=q
   obtain ⟨n,t,e'⟩:=q
   have hc1:∀{st:St} {K:AM→St→Prop} {w:AO},K (.ret (ML n t e')) st→PC 36 [.agg [.slice 4 (Av x.Ak) w,.int .i64 0,.slice 1 [] .full,.int .i64 0],.int .i64 d] st K:=fun h=>JV (args':=[CN ⟨x.Ak,0,[],0⟩,.int .i64 d]) rfl (Xr hm hq h)
   by_cases g1:e'=0
   ·by_cases g2:t.pos=x.Ak.length
    ·by_cases g3:t.CG=[]
     ·subst g1
      have hr:=Qx hq
      have hd:1≤d:=by
       apply Classical.byContradiction
       intro hn
       unfold Bz at hq
       rw [if_pos (by omega)] at hq
       cases hq
      have dq:DK d=d.toNat∧DK (d+1)=d.toNat+1:=by unfold DK;constructor<;>(split<;>omega)
      rw [dq.1] at hr
      have hr2:=ZU (d:=d.toNat) (by omega) hkd hr g2 g3
      have c2:Bz ⟨[Fo]++x.Ak++[Fx],0,[],0⟩ (d+1) (EA (Ni (DK (d+1))) ⟨[Fo]++x.Ak++[Fx],0,[],0⟩)=(AD 4 [AJ Fo,n,AJ Fx],⟨[Fo]++x.Ak++[Fx],(([Fo]++x.Ak++[Fx]).length:Nat),[],0⟩,0):=by
       rw [dq.2,show [Fo]++x.Ak++[Fx]=Fo::(x.Ak++[Fx]) from rfl]
       unfold Bz EA
       rw [if_neg (by omega),hr2]
      have hm2:mu ⟨[Fo]++x.Ak++[Fx],0,[],0⟩≤100000000:=by unfold mu;simp only [List.length_nil,List.length_append,List.length_singleton];omega
      have hc2:∀{st:St} {K:AM→St→Prop} {w:AO},K (.ret (ML (AD 4 [AJ Fo,n,AJ Fx]) ⟨[Fo]++x.Ak++[Fx],(([Fo]++x.Ak++[Fx]).length:Nat),[],0⟩ 0)) st→PC 36 [.agg [.slice 4 (Av ([Fo]++x.Ak++[Fx])) w,.int .i64 0,.slice 1 [] .full,.int .i64 0],.int .i64 (d+1)] st K:=fun h=>JV (args':=[CN ⟨[Fo]++x.Ak++[Fx],0,[],0⟩,.int .i64 (d+1)]) rfl (Xr hm2 c2 h)
      have hk1:(AD 4 [AJ Fo,n,AJ Fx]).kids[(1:Int).toNat]? =some n:=rfl
      have hk2:(((AD 4 [AJ Fo,n,AJ Fx]).kids.length:Nat):Int)=3:=rfl
      have hk3:(AD 4 [AJ Fo,n,AJ Fx]).kind=4:=rfl
      have hk5:(⟨[Fo]++x.Ak++[Fx],(([Fo]++x.Ak++[Fx]).length:Nat),[],0⟩:Ae).pos=((([Fo]++x.Ak++[Fx]).length:Nat):Int):=rfl
      have ho:¬((t.CG.length:Nat):Int)>0:=by rw [g3];decide
      repeat' ((conv=>whnf);first|exact Cq|(refine Bc ?_;intros)|(refine Cr ?_ ?_ ?_;rotate_left)|(refine Be ?_ ?_<;>intro _)|refine TT e (fun w1 w2 st2 U=>?_)|refine WJ (fun _=>?_)|refine hc1 ?_|refine hc2 ?_|refine ie (l:=[Fo]) (m:=x.Ak) (own:=.full) (st:=st2) trivial (by show 1+x.Ak.length≤_<;>omega) (fun own1 ho1=>?_)|refine Vf (l:=[Fo]++x.Ak) (x:=Fx) ho1 (by simp only [List.length_append,List.length_singleton]<;>omega) (fun own2 ho2=>?_)|refine Wq (a:=d+1) (by omega) (by omega) ?_|refine fV _ (Nat.le_refl _) (lp.A0 n) ?_|refine Ar [(0,true),(1,true),(2,true),(3,true),(4,true),(5,true),(6,true),(7,true),(8,true),(9,true),(10,true),(11,true),(12,true),(13,true),(14,true),(15,true),(16,true),(17,true),(18,true),(19,true),(20,true),(21,true),(22,true),(23,true),(24,true),(25,true),(26,true),(27,true),(28,true),(29,false),(30,true),(31,true)] [] (by decide +kernel) ?_|with_reducible refine WF ?_)
      all_goals exact fin (h _) rfl
     ·have ho:((t.CG.length:Nat):Int)>0:=by have:=List.length_pos_iff.2 g3;omega
      repeat' ((conv=>whnf);first|exact Cq|(refine Bc ?_;intros)|(refine Cr ?_ ?_ ?_;rotate_left)|(refine Be ?_ ?_<;>intro _)|refine TT e (fun w1 w2 st2 U=>?_)|refine WJ (fun _=>?_)|refine hc1 ?_|with_reducible refine WF ?_)
      all_goals exact fin (h _) rfl
    ·skip
     repeat' ((conv=>whnf);first|exact Cq|(refine Bc ?_;intros)|(refine Cr ?_ ?_ ?_;rotate_left)|(refine Be ?_ ?_<;>intro _)|refine TT e (fun w1 w2 st2 U=>?_)|refine WJ (fun _=>?_)|refine hc1 ?_|with_reducible refine WF ?_)
     all_goals exact fin (h _) rfl
   ·skip
    repeat' ((conv=>whnf);first|exact Cq|(refine Bc ?_;intros)|(refine Cr ?_ ?_ ?_;rotate_left)|(refine Be ?_ ?_<;>intro _)|refine TT e (fun w1 w2 st2 U=>?_)|refine WJ (fun _=>?_)|refine hc1 ?_|with_reducible refine WF ?_)
    all_goals exact fin (h _) rfl
end
end Go.Proofs.YtkidoddkbhchkaaGreatDoor
