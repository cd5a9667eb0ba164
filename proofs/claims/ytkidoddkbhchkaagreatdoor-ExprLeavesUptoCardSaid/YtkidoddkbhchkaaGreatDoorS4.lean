/-
  Parts of a proof: lemmas that the last text uses.
-/
import Derived.Test.YtkidoddkbhchkaaGreatDoorS3
set_option linter.unusedVariables false
set_option linter.unusedSimpArgs false
set_option maxHeartbeats 16000000
namespace Go.Aw
open Go
def tr (l:List UInt8) (m:Nat) (r:List UInt8):List UInt8:=l.take m++r
def o4 (r:List UInt8):Prop:=AQ r= -1∨AQ r=32∨AQ r=10
theorem jI {r:List UInt8} (h:AQ r= -1):r=[]:=by
 cases r with
 |nil=>rfl
 |cons a r=>have h:((a.toNat:Nat):Int)= -1:=h;omega
theorem N4 {l r:List UInt8}:tr l 0 r=r:=by unfold tr;rw [List.take_zero];rfl
theorem IG {l r:List UInt8} {m j:Nat} (h:j≤m) (U:m≤l.length):(tr l m r).drop j=tr (l.drop j) (m - j) r:=by
 unfold tr;rw [List.drop_append_of_le_length (by rw [List.length_take];omega),List.drop_take]
theorem Ks {l r:List UInt8} {m:Nat} (h:0<m) (U:m≤l.length):AQ (tr l m r)=AQ l:=by
 cases l with
 |nil=>simp only [List.length_nil] at U;omega
 |cons a l=>
  obtain ⟨m,rfl⟩:∃k,m=k+1:=⟨m - 1,by omega⟩
  rfl
theorem gG {l r:List UInt8} {m j:Nat} (h:j<m) (U:m≤l.length):AQ ((tr l m r).drop j)=AQ (l.drop j):=by
 rw [IG (by omega) U,Ks (by omega) (by rw [List.length_drop];omega)]
theorem kX {l r:List UInt8} {m n:Nat} (h:n≤m) (U:m≤l.length):(tr l m r).take n=l.take n:=by
 unfold tr
 rw [List.take_append_of_le_length (by rw [List.length_take];omega),List.take_take,Nat.min_eq_left h]
theorem SH {l r:List UInt8} {m:Nat} (U:m≤l.length):(tr l m r).length=m+r.length:=by
 unfold tr;rw [List.length_append,List.length_take,Nat.min_eq_left U]
theorem cM {l r:List UInt8} {m:Nat} (hv:Vd l) (h0:0<m) (hm:m≤l.length) (hb:Bd l m):AH (tr l m r)=AH l∧(AH l).2≤m:=by
 have U:l≠[]:=fun e=>by rw [e] at hm;simp only [List.length_nil] at hm;omega
 have hd:(AH l).2≤m:=by
  cases hb with
  |zero=>omega
  |step _ _=>omega
 have:=Ow U (hv.rune U).1 ((l.take m).drop (AH l).2++r)
 rw [←List.append_assoc] at this
 rw [show l.take (AH l).2=(l.take m).take (AH l).2 by rw [List.take_take,Nat.min_eq_left hd],List.take_append_drop] at this
 exact ⟨this,hd⟩
theorem kQ {p:Nat×Nat→Bool} {l r:List UInt8} {m:Nat} (hv:Vd l) (hb:Bd l m) (hm:m≤l.length) (hr:Bj p r=0) (h:Bj p l≤m):Bj p (tr l m r)=Bj p l:=by
 induction hb with
 |zero l=>rw [N4,hr];omega
 |@step l k U hb ih=>
  have hp:=DA l
  have hd:=cM (r:=r) hv (by omega) hm (.step U hb)
  have hne':tr l ((AH l).2+k) r≠[]:=fun e=>by
   have:=congrArg List.length e
   rw [SH hm] at this;simp only [List.length_nil] at this;omega
  cases hc:p (AH l) with
  |false=>rw [EC hc,EC (by rw [hd.1];exact hc)]
  |true=>
   rw [Co U hc] at h ⊢
   rw [Co hne' (by rw [hd.1];exact hc),hd.1,IG (by omega) hm,show (AH l).2+k - (AH l).2=k by omega,ih (hv.rune U).2 (by rw [List.length_drop];omega) (by omega)]
theorem iD {r:List UInt8} (U:o4 r):r=[]∨(r≠[]∧(((AH r).1:Nat):Int)=32)∨(r≠[]∧(((AH r).1:Nat):Int)=10):=by
 rcases U with h|h|h
 ·exact .inl (jI h)
 ·exact .inr (.inl ⟨fun e=>by rw [e] at h;exact absurd h (by decide),by rw [(EG (by omega) (by omega)).2,h]⟩)
 ·exact .inr (.inr ⟨fun e=>by rw [e] at h;exact absurd h (by decide),by rw [(EG (by omega) (by omega)).2,h]⟩)
theorem gp {p:Int→Bool} {r:List UInt8} (hr:o4 r) (U:p 32=false) (h2:p 10=false):BI p r=0:=by
 rcases iD hr with rfl|⟨_,h⟩|⟨_,h⟩
 ·exact Q5 p
 ·exact PK (by rw [h];exact U)
 ·exact PK (by rw [h];exact h2)
theorem Bd.sub {l:List UInt8} {i j:Nat} (h:Bd l i) (k:Bd l j) (hij:i≤j):Bd (l.drop i) (j - i):=by
 induction h generalizing j with
 |zero l=>exact k
 |@step l i hne h ih=>
  cases k with
  |zero=>have:=DA l;omega
  |@step _ U _ k=>
   rw [show (AH l).2+U - ((AH l).2+i)=U - i by omega,←List.drop_drop]
   exact ih k (by omega)
theorem fW (s:List UInt8) (n:Nat) (k:Int):n≤(F1 s n k).2:=by
 fun_induction F1 s n k with
 |case1 n k U hc ih=>omega
 |case2 n k U hc=>exact Nat.le_refl _
 |case3 n k U=>exact Nat.le_refl _
theorem aE {l:List UInt8} (h:(Bk l).1≠0):0<(Bk l).2:=by
 by_cases U:0<(Bk l).2
 ·exact U
 ·exfalso
  cases l with
  |nil=>exact h rfl
  |cons a r=>
   have hne:a::r≠[]:=by simp
   have hp:=DA (a::r)
   apply h
   unfold Bk at U ⊢
   split
   ·rename_i h6;rw [if_pos h6] at U;simp only at U;omega
   ·rename_i h6
    rw [if_neg h6] at U
    have key:∀p:Int→Bool,p (((AH (a::r)).1:Nat):Int)=true→0<BI p (a::r):=fun p hp'=>by
     rw [aU hne hp'];omega
    split
    ·rename_i h5
     rw [if_pos h5] at U
     have:=key (fun c=>AF c==5) (beq_iff_eq.2 h5)
     simp only at U;omega
    ·rename_i h5
     rw [if_neg h5] at U
     split
     ·rename_i h3
      rw [if_pos h3] at U
      have h3':AF (((AH (a::r)).1:Nat):Int)=3:=h3
      have:=key Hf (by unfold Hf;rw [h3'];rfl)
      unfold Ko at U;simp only at U;omega
     ·rename_i h3
      rw [if_neg h3] at U
      split
      ·rename_i h2
       rw [if_pos h2] at U
       have h2':AF (((AH (a::r)).1:Nat):Int)=2:=h2
       have:=key Hf (by unfold Hf;rw [h2'];rfl)
       unfold Ko at U;simp only at U;omega
      ·rfl
def nR (k:Int) (t:List UInt8) (p:Int×Int):List V:=[.int .i64 k,.str t,.int .i64 p.1,.int .i64 p.2]
theorem fT {st0 st:St} {w1 w2:AO} {n2:Nat} {o:List (List V)} {k a b:Int} {t:List UInt8} {K:V→St→Prop} (h:BH st0 st w1 (o.length*4) w2 n2) (hl:o.length≤1000000000)
 (kk:∀U st',BH st0 st' U ((o.length+1)*4) w2 n2→st'.box=st.box→K (.slice 4 (o++[nR k t (a,b)]) U) st'):Ai 4 40 o w1 [[.int .i64 k,.str t,.int .i64 a,.int .i64 b]] st K:=
 J1 h rfl (by rw [List.length_singleton];omega) (by rw [List.length_singleton];unfold De;omega) rfl (by simp) (fun U st' hr hb=>kk U st' hr hb)
end Go.Aw
namespace Go.Proofs.YtkidoddkbhchkaaGreatDoor
open Go Go.Aw
section
variable {st:St} {R:AM→St→Prop}
attribute [local irreducible] Go.Aw.Ai
theorem kW {st0:St} {s:List UInt8} {b p sp q n2:Nat} {k e0 ln B7 Dd ends:Int} {Ak notes:List (List V)} {w1 w2:AO} {j:Bool} (hl:s.length≤100000000) (hsp:sp≤p) (hpq:p≤q) (hq:q≤s.length) (hln:1≤ln∧ln≤800000000) (hcol:1≤B7∧B7≤1000000000)
 (hg:0≤Dd∧Dd≤1000000000) (ht:Ak.length≤1000000000) (U:st0.box b=none) (hR:BH st0 st w1 (Ak.length*4) w2 n2) (hb:st.box b=some (NJ s p sp ln B7 Ak notes w1 w2 Dd ends j))
 (h:∀w1' st',BH st0 st' w1' ((Ak.length+1)*4) w2 n2→st'.box b=some (NJ s q q (Ci s p q (Ci s sp p (ln,B7))).1 (Ci s p q (Ci s sp p (ln,B7))).2 (Ak++[nR k (AX s p q) (Ci s sp p (ln,B7))]) notes w1' w2
   (if decide (¬k=15)|| !Lib.contains [123,125,59] (AX s p q) then Dd+1 else Dd) (Ci s p q (Ci s sp p (ln,B7))).1 true)→R (.ret (.Bo [])) st'):PC 48 [.ptr b 0,.agg [.int .i64 k,.int .i64 q,.int .i64 e0]] st R:=by
 have z1:=YC (s:=s) (p:=(ln,B7)) hsp (by omega) hcol.1
 refine BF Ac [] Tryz.func48 rfl (by decide) rfl ?_
 refine Au (As Ac ?_)
 repeat' ((conv=>whnf);first|exact Cq|(refine Bc ?_;intros)|(refine Cr ?_ ?_ ?_;rotate_left)|(refine Be ?_ ?_<;>intro _)|with_reducible refine WF ?_)
 refine Au (As Ac ?_)
 repeat' ((conv=>whnf);first|exact Cq|(refine Bc ?_;intros)|(refine Cr ?_ ?_ ?_;rotate_left)|(refine Be ?_ ?_<;>intro _)|refine kV hl hsp (by omega) (by omega) (by omega) hb ?_|refine Aj hb ?_|with_reducible refine WF ?_)
 generalize Ci s sp p (ln,B7)=pl1 at h z1 ⊢
 have z2:=YC (s:=s) (p:=pl1) hpq hq z1.2.2.1
 dsimp only at z1 z2
 refine Au (As Ac ?_)
 repeat' ((conv=>whnf);first|exact Cq|(refine Bc ?_;intros)|(refine Cr ?_ ?_ ?_;rotate_left)|(refine Be ?_ ?_<;>intro _)|refine Sp hpq hq ?_|refine Aj (St.AL _ _ _) ?_|with_reducible refine WF ?_)
 refine Au (As Ac ?_)
 repeat' ((conv=>whnf);first|refine Ar [(0,true),(1,true),(2,true),(3,true),(4,true),(5,true),(6,true),(7,false),(8,true),(9,true),(10,false)] [] (by decide +kernel) ?_|exact Cq|(refine Bc ?_;intros)|(refine Cr ?_ ?_ ?_;rotate_left)|(refine Be ?_ ?_<;>intro _)|refine Aj (St.AL _ _ _) ?_|refine fT (hR.set U _) ht (fun w1' st1 hr1 hb1=>?_)|refine Aj ((congrFun hb1 b).trans (St.AL _ _ _)) ?_|with_reducible refine WF ?_)
 clear hR hb
 rcases hc:(decide (¬k=15)|| !Lib.contains [123,125,59] (AX s p q)) with _|_
 all_goals rw [hc] at h
 ·have hcc:∀{st:St} {R:AM→St→Prop},R (.ret (.bool false)) st→PC 94 [.agg [.int .i64 k,.str (AX s p q),.int .i64 pl1.1,.int .i64 pl1.2]] st R:=fun h=>Tc (by rw [hc];exact h)
  refine Au (As Ac ?_)
  repeat' ((conv=>whnf);first|exact Cq|(refine Bc ?_;intros)|(refine Cr ?_ ?_ ?_;rotate_left)|(refine Be ?_ ?_<;>intro _)|refine hcc ?_|refine Aj (St.AL _ _ _) ?_|with_reducible refine WF ?_)
  refine As Ac ?_
  repeat' ((conv=>whnf);first|exact Cq|(refine Bc ?_;intros)|(refine Cr ?_ ?_ ?_;rotate_left)|(refine Be ?_ ?_<;>intro _)|refine kV hl hpq hq (by omega) (by omega) (St.AL _ _ _) ?_|refine Aj (St.AL _ _ _) ?_|with_reducible refine WF ?_)
  all_goals exact fin (h w1' _ ((((hr1.set U _).set U _).set U _).set U _) (St.AL _ _ _)) rfl
 ·have hcc:∀{st:St} {R:AM→St→Prop},R (.ret (.bool true)) st→PC 94 [.agg [.int .i64 k,.str (AX s p q),.int .i64 pl1.1,.int .i64 pl1.2]] st R:=fun h=>Tc (by rw [hc];exact h)
  refine Au (As Ac ?_)
  repeat' ((conv=>whnf);first|exact Cq|(refine Bc ?_;intros)|(refine Cr ?_ ?_ ?_;rotate_left)|(refine Be ?_ ?_<;>intro _)|refine hcc ?_|refine Aj (St.AL _ _ _) ?_|with_reducible refine WF ?_)
  refine As Ac ?_
  repeat' ((conv=>whnf);first|exact Cq|(refine Bc ?_;intros)|(refine Cr ?_ ?_ ?_;rotate_left)|(refine Be ?_ ?_<;>intro _)|refine kV hl hpq hq (by omega) (by omega) (St.AL _ _ _) ?_|refine Aj (St.AL _ _ _) ?_|with_reducible refine WF ?_)
  all_goals exact fin (h w1' _ (((((hr1.set U _).set U _).set U _).set U _).set U _) (St.AL _ _ _)) rfl
end
structure Nt where
 text:List UInt8
 Dd:Int
 wh:Int
 line:Int
 B7:Int
def Nt.cells (n:Nt):List V:=[.str n.text,.int .i64 n.Dd,.int .i64 n.wh,.int .i64 n.line,.int .i64 n.B7]
def Hw (l:List Nt):List (List V):=l.map Nt.cells
structure Lx where
 Ak:List Tk
 notes:List Nt
 Dd:Int
 ends:Int
 j:Bool
def oM:Lx:=⟨[],[],0,0,false⟩
def cntF (k:Int) (t:List UInt8):Bool:=decide (¬k=15)|| !Lib.contains [123,125,59] t
def KL (s:List UInt8) (p q:Nat) (k:Int) (x:Lx):Lx:=
 ⟨x.Ak++[⟨k,AX s p q,(CR s p).1,(CR s p).2⟩],x.notes,if cntF k (AX s p q) then x.Dd+1 else x.Dd,(CR s q).1,true⟩
def Dy (s:List UInt8) (p:Nat):Nat:=p+BI (fun c=>AF c==1) (s.drop p)
theorem H3 {s:List UInt8} {p:Nat} (h:p≤s.length):p≤Dy s p∧Dy s p≤s.length:=by
 have:=Fj (fun c=>AF c==1) (s.drop p)
 rw [List.length_drop] at this
 unfold Dy;omega
def cq (s:List UInt8) (p q:Nat) (x:Lx):Bool:=x.j&&decide (x.ends=(CR s p).1)&&decide ((CR s q).1=(CR s p).1)
def Qd (s:List UInt8) (p q:Nat):Bool:=decide (Dy s q<s.length)&&decide ((CR s (Dy s q)).1=(CR s p).1)
def QU (s:List UInt8) (p q:Nat) (x:Lx):Lx:=
 ⟨x.Ak,x.notes++[⟨AX s p q,x.Dd,if cq s p q x then (if Qd s p q then 1 else 2) else 3,(CR s p).1,(CR s p).2⟩],x.Dd,(CR s q).1,cq s p q x&&Qd s p q⟩
def Gk (s:List UInt8) (p:Nat) (x:Lx):Sum (Int×Int) Lx:=
 if hp:p<s.length then
  if (Ct s p).2≠0 then .inl ((p:Nat),(Ct s p).2)
  else if 0<(Ct s p).1 then
   (if U:p<(Ct s p).1.toNat then Gk s (Dy s (Ct s p).1.toNat) (QU s p (Ct s p).1.toNat x) else .inr x)
  else if (Cc s p).2.2≠0 then .inl ((Cc s p).2.1,(Cc s p).2.2)
  else (if U:p<(Cc s p).2.1.toNat then Gk s (Dy s (Cc s p).2.1.toNat) (KL s p (Cc s p).2.1.toNat (Cc s p).1 x) else .inr x)
 else .inr x
termination_by s.length - p
decreasing_by
 all_goals unfold Dy;omega
def Fs (s:List UInt8):Sum (Int×Int) Lx:=
 if 16777216<s.length then .inl (0,3)
 else if (L0 s).2≠0 then .inl (L0 s)
 else if 0≤VP (fun c=>AF (c:Nat)==0) s then .inl (VP (fun c=>AF (c:Nat)==0) s,70)
 else Gk s (Dy s 0) oM
theorem cI {s:List UInt8} (h:(L0 s).2=0):Vd s:=by
 unfold L0 at h
 split at h
 ·exact absurd h (show ¬(10:Int)=0 by decide)
 ·have:=LK C5 s
  unfold Vd;omega
def js:List UInt8:=[102,32,120,32,124,32,103,32,61,32,40,100,111,32,97,59,32,98,41,10,32,32,32,32,124,32,104,32,61,32,120,32,119,104,101,114,101,32,123,32,99,32,61,32,45,49,32,125,10,105,110,102,105,120,108,32,54,32,43,44,32,96,102,96]
def ZS:List Tk:=match Fs js with| .inr x=>x.Ak| .inl _=>[]
def dK:Ae:=⟨HG ZS,0,[],0⟩
theorem jt:(match Fs js with| .inr _=>true| .inl _=>false)=true:=by kernel_rfl
def lZ (l:List Tk):Bool:=l.all fun t=>decide (t.text.length≤100000000)&&(decide (-1000000000≤t.line)&&decide (t.line≤1000000000))
theorem jr:(lZ ZS&&decide (ZS.length≤1000))=true:=by kernel_rfl
theorem jq:decide ((HG ZS).length≤100)=true:=by kernel_rfl
def P7:List Tk:=[⟨15,[40],0,0⟩,⟨1,[97],0,0⟩,⟨5,[43],0,0⟩,⟨15,[41],0,0⟩]
theorem oo:(match (Da Fz (K3 (Ee 5) (EP 4))).run dK with
 | .inr (n,s')=>(n.kind==2&&n.form==0)&&(s'.pos==(s'.Ak.length:Nat)&&n.kids.map Nd.kind==[36,35])
 | .inl _=>false)=true:=by kernel_rfl
theorem oq:(match (Hb (Ee 2) (EP 1)).run ⟨P7,0,[],0⟩ with
 | .inr (n,s')=>n.kind==9
 | .inl _=>false)=true:=by kernel_rfl
end Go.Proofs.YtkidoddkbhchkaaGreatDoor
namespace Go.Aw
open Go
theorem Bv.le {l:List UInt8} {k:Nat} (h:Bv l k):k≤l.length:=by
 induction h with
 |zero l=>exact Nat.zero_le _
 |step U h ih=>have:=ED U;rw [List.length_drop] at ih;omega
theorem Bv.blank {l:List UInt8} (hv:Vd l):Bv l (BI (fun c=>AF c==1) l):=by
 refine Bd.cut (Bd.span _ l) ?_
 rintro ⟨h0,_,U⟩
 have U:AQ (l.drop (BI (fun c=>AF c==1) l))=10:=U
 have hlt:=B9 (l:=l) (k:=BI (fun c=>AF c==1) l) (by omega)
 have:=PM (fun c=>AF c==1) l hlt
 rw [(EG (by omega) (by omega)).2,U] at this
 exact absurd this (by decide)
theorem fe {s:List UInt8} {p:Nat} (e:(Ct s p).2=0) (U:0<(Ct s p).1):∃n:Nat,0<n∧Dl (s.drop p)=(n:Nat)∧(Ct s p).1=(p+n:Nat):=by
 unfold Ct at e U ⊢
 split
 ·rename_i h;rw [if_pos h] at e;exact absurd e (by decide)
 ·rename_i h
  rw [if_neg h] at e U
  split
  ·rename_i h1;rw [if_pos h1] at U;exact absurd U (by decide)
  ·rename_i h1
   exact ⟨(Dl (s.drop p)).toNat,by omega,by omega,by dsimp only;omega⟩
theorem Ub {s:List UInt8} {p:Nat} (hv:Vd s) (h:Bv s p) (e:(Ct s p).2=0) (U:0<(Ct s p).1):∃q,(Ct s p).1=(q:Nat)∧p<q∧q≤s.length∧Bv s q:=by
 obtain ⟨n,h1,h2,h3⟩:=fe e U
 have hc:=Bv.add h (Bv.note (h.bd.vd hv) h2)
 exact ⟨p+n,h3,by omega,hc.le,hc⟩
theorem kB {l:List UInt8} (h:(DM l).1≠0):0<(DM l).2:=by
 unfold DM at h ⊢
 split
 ·dsimp only;omega
 ·rename_i U
  rw [if_neg U] at h
  split
  ·rename_i h2;rw [if_pos h2] at h;exact absurd rfl h
  ·dsimp only;omega
theorem gN {l:List UInt8} (h:(Dh l).1≠0):0<(Dh l).2:=by
 have hge:=fW l (Bk l).2 (Bk l).1
 by_cases U:(Bk l).1=0
 ·unfold Dh at h
  rw [Uw (fun x=>by rw [U] at x;rcases x.2.1 with y|y<;>exact absurd y (by decide))] at h
  exact absurd U h
 ·have:=aE U
  unfold Dh;omega
theorem TV {s:List UInt8} {p:Nat} (hv:Vd s) (h:Bv s p) (e:(Cc s p).2.2=0):(Cc s p).1≠0∧∃q,(Cc s p).2.1=(q:Nat)∧p<q∧q≤s.length∧Bv s q:=by
 have hv':=h.bd.vd hv
 unfold Cc at e ⊢
 split
 ·rename_i U
  refine ⟨U,p+(DM (s.drop p)).2,?_⟩
  have hn:(DM (s.drop p)).1≠0:=fun x=>by
   unfold Lt at U;rw [if_pos x] at U;exact U rfl
  have hc:=Bv.add h (Bv.num (s.drop p))
  have:=kB hn
  refine ⟨?_,by omega,hc.le,hc⟩
  unfold Lt;rw [if_neg hn]
 ·rename_i U
  rw [if_neg U] at e
  split
  ·rename_i h2
   rw [if_pos h2] at e
   split
   ·rename_i h3;rw [if_pos h3] at e;exact absurd e (by decide:¬(70:Int)=0)
   ·rename_i h3
    refine ⟨h3,p+(Dh (s.drop p)).2,?_⟩
    have hn:(Dh (s.drop p)).1≠0:=fun x=>by
     unfold Fm at h3;rw [if_pos x] at h3;exact h3 rfl
    have hc:=Bv.add h (Bv.word (s.drop p))
    have:=gN hn
    refine ⟨?_,by omega,hc.le,hc⟩
    unfold Fm;rw [if_neg hn]
  ·rename_i h2
   rw [if_neg h2] at e
   have hk:(Cf s p).1≠0:=fun x=>h2 ⟨x,e⟩
   obtain ⟨n,e1,e2,e3⟩:=Bv.quote hv' hk
   have hc:=Bv.add h e3
   exact ⟨hk,p+n,e1,by omega,hc.le,hc⟩
theorem Bv.iz {s:List UInt8} {p:Nat} (U:Vd s) (h:Bv s p):Bv s (Go.Proofs.YtkidoddkbhchkaaGreatDoor.Dy s p):=Bv.add h (Bv.blank (h.bd.vd U))
def ai (a b:Int×Int):Prop:=a.1<b.1∨(a.1=b.1∧a.2<b.2)
theorem ai.trans {a b c:Int×Int} (h:ai a b) (k:ai b c):ai a c:=by unfold ai at *;omega
theorem kR {l:List UInt8} {p:Int×Int} (h:1≤p.2):ai p (Eh l p.1,Fk l p.2):=by
 unfold ai Eh Fk UM
 by_cases U:0<GG l
 ·rw [if_pos U];left;dsimp only;omega
 ·rw [if_neg U,if_neg U]
  right
  refine ⟨rfl,?_⟩
  dsimp only
  split<;>omega
theorem ld {l:List UInt8} {k:Nat} (h:Bv l k) (p:Int×Int) (hp:1≤p.2):(k=0∧BA l k p=p)∨(0<k∧ai p (BA l k p)):=by
 induction h generalizing p with
 |zero l=>exact .inl ⟨rfl,EW⟩
 |@step l j U h ih=>
  have h1:=ED U
  have h2:=kR (l:=l) hp
  refine .inr ⟨by omega,?_⟩
  rw [DY U (by omega),show AR l+j - AR l=j by omega]
  rcases ih (Eh l p.1,Fk l p.2) (N0 l hp).1 with ⟨_,e⟩|⟨_,e⟩
  ·rw [e];exact h2
  ·exact h2.trans e
theorem Bv.sub {l:List UInt8} {i j:Nat} (h:Bv l i) (k:Bv l j) (hij:i≤j):Bv (l.drop i) (j - i):=by
 induction h generalizing j with
 |zero l=>exact k
 |@step l i U h ih=>
  cases k with
  |zero=>have:=ED U;omega
  |@step _ j' _ k=>
   rw [show AR l+j' - (AR l+i)=j' - i by omega,←List.drop_drop]
   exact ih k (by omega)
theorem LV {s:List UInt8} {p:Nat}:1≤(CR s p).1∧(CR s p).1≤1+s.length∧1≤(CR s p).2∧(CR s p).2≤1+8*s.length:=by
 have:=SN _ s p (1,1) (Nat.le_refl _) (by decide)
 unfold CR
 omega
theorem cf {s:List UInt8} {p q:Nat} (h:Bv s p) (k:Bv s q) (U:p<q):ai (CR s p) (CR s q):=by
 have c:=h.sub k (by omega)
 have e:CR s q=BA (s.drop p) (q - p) (CR s p):=by
  unfold CR
  rw [←UU h,show p+(q - p)=q by omega]
 rw [e]
 rcases ld c (CR s p) LV.2.2.1 with ⟨x,_⟩|⟨_,x⟩
 ·omega
 ·exact x
theorem Ml {s:List UInt8} {a b:Nat} (hv:Vd s) (U:Bv s a) (hb:Bv s b) (h:a≤b):Ci s a b (CR s a)=CR s b:=fy hv U (U.sub hb h) h hb.le
def pL (t:List UInt8) (Dd wh:Int) (p:Int×Int):List V:=[.str t,.int .i64 Dd,.int .i64 wh,.int .i64 p.1,.int .i64 p.2]
theorem Mn {st0 st:St} {w1 w2:AO} {n1:Nat} {o:List (List V)} {g k a b:Int} {t:List UInt8} {K:V→St→Prop} (h:BH st0 st w1 n1 w2 (o.length*5)) (hl:o.length≤1000000000)
 (kk:∀U st',BH st0 st' w1 n1 U ((o.length+1)*5)→st'.box=st.box→K (.slice 5 (o++[pL t g k (a,b)]) U) st'):Ai 5 48 o w2 [[.str t,.int .i64 g,.int .i64 k,.int .i64 a,.int .i64 b]] st K:=
 J1 h.swap rfl (by rw [List.length_singleton];omega) (by rw [List.length_singleton];unfold De;omega) rfl (by simp) (fun w1' st' hr hb=>kk w1' st' hr.swap hb)
end Go.Aw
namespace Go.Proofs.YtkidoddkbhchkaaGreatDoor
open Go Go.Aw
section
variable {st:St} {R:AM→St→Prop}
attribute [local irreducible] Go.Aw.Ai
theorem Y0 {s:List UInt8} {b p sp q:Nat} {Dd ends:Int} {Ak notes:List (List V)} {w1 w2:AO} {j:Bool} (hl:s.length≤100000000) (hv:Vd s) (c1:Bv s sp) (c2:Bv s q) (U:sp≤q)
 (hb:st.box b=some (NJ s p sp (CR s sp).1 (CR s sp).2 Ak notes w1 w2 Dd ends j))
 (h:R (.ret (.Bo [.int .i64 (CR s q).1,.int .i64 (CR s q).2])) (st.Ab b (NJ s p q (CR s q).1 (CR s q).2 Ak notes w1 w2 Dd ends j))):PC 90 [.ptr b 0,.int .i64 q] st R:=by
 have e:Ci s sp q ((CR s sp).1,(CR s sp).2)=CR s q:=Ml hv c1 c2 U
 have hc:=LV (s:=s) (p:=sp)
 refine kV hl U c2.le (by omega) (by omega) hb ?_
 rw [e];exact h
theorem gE {st0:St} {s:List UInt8} {b p sp q n2:Nat} {k e0 Dd ends:Int} {Ak notes:List (List V)} {w1 w2:AO} {j:Bool} (hl:s.length≤50000000) (hv:Vd s) (c1:Bv s sp) (c2:Bv s p) (c3:Bv s q) (hsp:sp≤p) (hpq:p≤q)
 (hg:0≤Dd∧Dd≤1000000000) (ht:Ak.length≤1000000000) (hb0:st0.box b=none) (hR:BH st0 st w1 (Ak.length*4) w2 n2) (hb:st.box b=some (NJ s p sp (CR s sp).1 (CR s sp).2 Ak notes w1 w2 Dd ends j))
 (h:∀U st',BH st0 st' U ((Ak.length+1)*4) w2 n2→st'.box b=some (NJ s q q (CR s q).1 (CR s q).2 (Ak++[nR k (AX s p q) (CR s p)]) notes U w2
   (if cntF k (AX s p q) then Dd+1 else Dd) (CR s q).1 true)→R (.ret (.Bo [])) st'):PC 48 [.ptr b 0,.agg [.int .i64 k,.int .i64 q,.int .i64 e0]] st R:=by
 have e1:Ci s sp p ((CR s sp).1,(CR s sp).2)=CR s p:=Ml hv c1 c2 hsp
 have e2:Ci s p q (CR s p)=CR s q:=Ml hv c2 c3 hpq
 have hc:=LV (s:=s) (p:=sp)
 refine kW (by omega) hsp hpq c3.le (by omega) (by omega) hg ht hb0 hR hb (fun U st' hr hb'=>h U st' hr ?_)
 rw [e1,e2] at hb';exact hb'
theorem nt {st0:St} {s:List UInt8} {b p sp q n1:Nat} {Dd ends:Int} {Ak notes:List (List V)} {w1 w2:AO} {j:Bool} (hl:s.length≤50000000) (hv:Vd s) (c1:Bv s sp) (c2:Bv s p) (c3:Bv s q) (hsp:sp≤p) (hpq:p≤q)
 (hg:0≤Dd∧Dd≤1000000000) (ht:notes.length≤1000000000) (U:st0.box b=none) (hR:BH st0 st w1 n1 w2 (notes.length*5)) (hb:st.box b=some (NJ s p sp (CR s sp).1 (CR s sp).2 Ak notes w1 w2 Dd ends j))
 (h:∀w2' st' sp',Bv s sp'→sp'≤Dy s q→BH st0 st' w1 n1 w2' ((notes.length+1)*5)→
   st'.box b=some (NJ s (Dy s q) sp' (CR s sp').1 (CR s sp').2 Ak (notes++[pL (AX s p q) Dd (if j&&decide (ends=(CR s p).1)&&decide ((CR s q).1=(CR s p).1) then (if Qd s p q then 1 else 2) else 3) (CR s p)]) w1 w2' Dd (CR s q).1
    (j&&decide (ends=(CR s p).1)&&decide ((CR s q).1=(CR s p).1)&&Qd s p q))→R (.ret (.Bo [])) st'):PC 46 [.ptr b 0,.int .i64 q] st R:=by
 have c4:=c3.iz hv
 have hq:=c3.le
 have hr:=H3 hq
 have z1:=LV (s:=s) (p:=p)
 have z2:=LV (s:=s) (p:=q)
 have z3:=LV (s:=s) (p:=Dy s q)
 refine BF Ac [] Tryz.func46 rfl (by decide) rfl ?_
 refine Au (As Ac ?_)
 repeat' ((conv=>whnf);first|exact Cq|(refine Bc ?_;intros)|(refine Cr ?_ ?_ ?_;rotate_left)|(refine Be ?_ ?_<;>intro _)|refine Y0 (by omega) hv c1 c2 hsp hb ?_|refine Aj hb ?_|with_reducible refine WF ?_)
 refine Au (As Ac ?_)
 repeat' ((conv=>whnf);first|exact Cq|(refine Bc ?_;intros)|(refine Cr ?_ ?_ ?_;rotate_left)|(refine Be ?_ ?_<;>intro _)|refine Sp hpq hq ?_|refine Aj (St.AL _ _ _) ?_|with_reducible refine WF ?_)
 refine Au (As Ac ?_)
 repeat' ((conv=>whnf);first|exact Cq|(refine Bc ?_;intros)|(refine Cr ?_ ?_ ?_;rotate_left)|(refine Be ?_ ?_<;>intro _)|refine Y0 (by omega) hv c2 c3 hpq (St.AL _ _ _) ?_|refine Aj (St.AL _ _ _) ?_|with_reducible refine WF ?_)
 have hbl:∀{st:St} {R:AM→St→Prop} {sp:Nat} {Dd ends:Int} {j:Bool} {notes:List (List V)} {w2:AO},st.box b=some (NJ s q sp (CR s sp).1 (CR s sp).2 Ak notes w1 w2 Dd ends j)→
  R (.ret (.Bo [])) (st.Ab b (NJ s (Dy s q) sp (CR s sp).1 (CR s sp).2 Ak notes w1 w2 Dd ends j))→PC 44 [.ptr b 0] st R:=fun hb h=>K0 (by omega) hq hb h
 have hcase:(j=false∨(j=true∧¬ends=(CR s p).1)∨(j=true∧ends=(CR s p).1∧¬(CR s q).1=(CR s p).1))∨(j=true∧ends=(CR s p).1∧(CR s q).1=(CR s p).1):=by
  cases j
  ·exact .inl (.inl rfl)
  ·by_cases e1:ends=(CR s p).1
   ·by_cases e2:(CR s q).1=(CR s p).1
    ·exact .inr ⟨rfl,e1,e2⟩
    ·exact .inl (.inr (.inr ⟨rfl,e1,e2⟩))
   ·exact .inl (.inr (.inl ⟨rfl,e1⟩))
 rcases hcase with hc|⟨rfl,he1,he2⟩
 ·have e:(j&&decide (ends=(CR s p).1)&&decide ((CR s q).1=(CR s p).1))=false:=by
   rcases hc with rfl|⟨rfl,e1⟩|⟨rfl,e1,e2⟩<;>simp [*]
  rw [e] at h
  rcases hc with rfl|⟨rfl,e1⟩|⟨rfl,e1,e2⟩
  all_goals refine Au (As Ac ?_)
  repeat' ((conv=>whnf);first|exact Cq|(refine Bc ?_;intros)|(refine Cr ?_ ?_ ?_;rotate_left)|(refine Be ?_ ?_<;>intro _)|refine Aj (St.AL _ _ _) ?_|with_reducible refine WF ?_)
  all_goals refine Au (As Ac ?_)
  repeat' ((conv=>whnf);first|exact Cq|(refine Bc ?_;intros)|(refine Cr ?_ ?_ ?_;rotate_left)|(refine Be ?_ ?_<;>intro _)|refine Aj (St.AL _ _ _) ?_|with_reducible refine WF ?_)
  all_goals refine Au (As Ac ?_)
  repeat' ((conv=>whnf);first|exact Cq|(refine Bc ?_;intros)|(refine Cr ?_ ?_ ?_;rotate_left)|(refine Be ?_ ?_<;>intro _)|refine hbl (St.AL _ _ _) ?_|with_reducible refine WF ?_)
  all_goals refine Au (As Ac ?_)
  repeat' ((conv=>whnf);first|exact Cq|(refine Bc ?_;intros)|(refine Cr ?_ ?_ ?_;rotate_left)|(refine Be ?_ ?_<;>intro _)|refine Aj (St.AL _ _ _) ?_|with_reducible refine WF ?_)
  all_goals refine Au (As Ac ?_)
  repeat' ((conv=>whnf);first|exact Cq|(refine Bc ?_;intros)|(refine Cr ?_ ?_ ?_;rotate_left)|(refine Be ?_ ?_<;>intro _)|with_reducible refine WF ?_)
  all_goals refine As Ac ?_
  repeat' ((conv=>whnf);first|refine Ar [(0,true),(1,true),(2,true),(3,true),(4,true),(5,true),(6,true),(7,false),(8,true),(9,true),(10,false)] [] (by decide +kernel) ?_|exact Cq|(refine Bc ?_;intros)|(refine Cr ?_ ?_ ?_;rotate_left)|(refine Be ?_ ?_<;>intro _)|refine Aj (St.AL _ _ _) ?_|refine Mn (((((hR.set U _).set U _).set U _).set U _).set U _) ht (fun w1' st1 hr1 hb1=>?_)|refine Aj ((congrFun hb1 b).trans (St.AL _ _ _)) ?_|with_reducible refine WF ?_)
  all_goals exact fin (h w1' _ q c3 hr.1 (hr1.set U _) (St.AL _ _ _)) rfl
 ·have e:(true&&decide (ends=(CR s p).1)&&decide ((CR s q).1=(CR s p).1))=true:=by simp [*]
  rw [e] at h
  refine Au (As Ac ?_)
  repeat' ((conv=>whnf);first|exact Cq|(refine Bc ?_;intros)|(refine Cr ?_ ?_ ?_;rotate_left)|(refine Be ?_ ?_<;>intro _)|refine Aj (St.AL _ _ _) ?_|with_reducible refine WF ?_)
  refine Au (As Ac ?_)
  repeat' ((conv=>whnf);first|exact Cq|(refine Bc ?_;intros)|(refine Cr ?_ ?_ ?_;rotate_left)|(refine Be ?_ ?_<;>intro _)|refine Aj (St.AL _ _ _) ?_|with_reducible refine WF ?_)
  refine Au (As Ac ?_)
  repeat' ((conv=>whnf);first|exact Cq|(refine Bc ?_;intros)|(refine Cr ?_ ?_ ?_;rotate_left)|(refine Be ?_ ?_<;>intro _)|refine hbl (St.AL _ _ _) ?_|with_reducible refine WF ?_)
  refine Au (As Ac ?_)
  repeat' ((conv=>whnf);first|exact Cq|(refine Bc ?_;intros)|(refine Cr ?_ ?_ ?_;rotate_left)|(refine Be ?_ ?_<;>intro _)|refine Aj (St.AL _ _ _) ?_|with_reducible refine WF ?_)
  rcases hin:Qd s p q with _|_
  all_goals rw [hin] at h
  ·have hno:¬Dy s q<s.length∨(Dy s q<s.length∧¬(CR s (Dy s q)).1=(CR s p).1):=by
    by_cases h1:Dy s q<s.length
    ·exact .inr ⟨h1,fun x=>by unfold Qd at hin;simp [h1,x] at hin⟩
    ·exact .inl h1
   rcases hno with hno|⟨hy,hno⟩
   all_goals refine Au (As Ac ?_)
   repeat' ((conv=>whnf);first|exact Cq|(refine Bc ?_;intros)|(refine Cr ?_ ?_ ?_;rotate_left)|(refine Be ?_ ?_<;>intro _)|refine Y0 (by omega) hv c3 c4 hr.1 (St.AL _ _ _) ?_|refine Aj (St.AL _ _ _) ?_|refine WJ (fun _=>?_)|with_reducible refine WF ?_)
   all_goals refine As Ac ?_
   repeat' ((conv=>whnf);first|refine Ar [(0,true),(1,true),(2,true),(3,true),(4,true),(5,true),(6,true),(7,false),(8,true),(9,true),(10,false)] [] (by decide +kernel) ?_|exact Cq|(refine Bc ?_;intros)|(refine Cr ?_ ?_ ?_;rotate_left)|(refine Be ?_ ?_<;>intro _)|refine Aj (St.AL _ _ _) ?_|refine Mn ((((((hR.set U _).set U _).set U _).set U _).set U _).set U _) ht (fun w1' st1 hr1 hb1=>?_)|refine Aj ((congrFun hb1 b).trans (St.AL _ _ _)) ?_|with_reducible refine WF ?_)
   all_goals exact fin (h w1' _ (Dy s q) c4 (Nat.le_refl _) (hr1.set U _) (St.AL _ _ _)) rfl
  ·have hy:Dy s q<s.length∧(CR s (Dy s q)).1=(CR s p).1:=by unfold Qd at hin;simpa using hin
   obtain ⟨hy1,hy2⟩:=hy
   refine Au (As Ac ?_)
   repeat' ((conv=>whnf);first|exact Cq|(refine Bc ?_;intros)|(refine Cr ?_ ?_ ?_;rotate_left)|(refine Be ?_ ?_<;>intro _)|refine Y0 (by omega) hv c3 c4 hr.1 (St.AL _ _ _) ?_|refine Aj (St.AL _ _ _) ?_|refine WJ (fun _=>?_)|with_reducible refine WF ?_)
   refine As Ac ?_
   repeat' ((conv=>whnf);first|refine Ar [(0,true),(1,true),(2,true),(3,true),(4,true),(5,true),(6,true),(7,false),(8,true),(9,true),(10,false)] [] (by decide +kernel) ?_|exact Cq|(refine Bc ?_;intros)|(refine Cr ?_ ?_ ?_;rotate_left)|(refine Be ?_ ?_<;>intro _)|refine Aj (St.AL _ _ _) ?_|refine Mn (((((((hR.set U _).set U _).set U _).set U _).set U _).set U _).set U _) ht (fun w1' st1 hr1 hb1=>?_)|refine Aj ((congrFun hb1 b).trans (St.AL _ _ _)) ?_|with_reducible refine WF ?_)
   all_goals exact fin (h w1' _ (Dy s q) c4 (Nat.le_refl _) (hr1.set U _) (St.AL _ _ _)) rfl
end
end Go.Proofs.YtkidoddkbhchkaaGreatDoor
namespace Go.Aw
open Go
theorem Bd.word {w t:List UInt8} (h:∀b ∈ w,b.toNat<128):Bd (w++t) w.length:=by
 induction w with
 |nil=>exact .zero _
 |cons a w U=>
  have e:(AH (a::(w++t))).2=1:=by rw [Dp (h a List.mem_cons_self)]
  have:=Bd.step (l:=a::(w++t)) (k:=w.length) (by simp) (by rw [e];exact U (fun b hb=>h b (List.mem_cons_of_mem _ hb)))
  rw [e,Nat.add_comm] at this
  exact this
theorem V9 (l:List UInt8):0<GG l↔(AQ l=13∨AQ l=10∨AQ l=12):=by
 rcases EY l with ⟨e,h⟩|⟨e,h,_⟩|⟨e,h,_⟩
 ·rw [e];exact ⟨fun x=>absurd x (by decide),fun x=>absurd x h⟩
 ·rw [e];exact ⟨fun _=>h,fun _=>by decide⟩
 ·rw [e];exact ⟨fun _=>.inl h,fun _=>by decide⟩
theorem kv {d:Nat} {l r:List UInt8} {m n:Nat} (hm:m≤l.length) (h:B5 d l=some n) (hn:n≤m):B5 d (tr l m r)=some n:=by
 fun_induction B5 d l generalizing m n with
 |case1=>cases h
 |case2 d a l hc ih=>
  obtain ⟨k,hk,rfl⟩:=Option.map_eq_some_iff.1 h
  have h2:=GD _ _ _ hk
  obtain ⟨m,rfl⟩:∃j,m=j+1:=⟨m - 1,by omega⟩
  have U:m≤l.length:=by simpa using hm
  show B5 d (a::tr l m r)=_
  rw [B5,if_pos ⟨hc.1,by rw [Ks (by omega) U];exact hc.2⟩,IG (by omega) U,ih (by rw [List.length_drop];omega) hk (by omega)]
  rfl
 |case3 d a l hc hk hd=>
  injection h with h
  subst h
  obtain ⟨m,rfl⟩:∃j,m=j+1:=⟨m - 1,by omega⟩
  have U:m≤l.length:=by simpa using hm
  show B5 d (a::tr l m r)=_
  rw [B5,if_neg (by rw [Ks (by omega) U];exact hc),if_pos ⟨hk.1,by rw [Ks (by omega) U];exact hk.2⟩,if_pos hd]
 |case4 d a l hc hk hd ih=>
  obtain ⟨k,hk',rfl⟩:=Option.map_eq_some_iff.1 h
  have h2:=GD _ _ _ hk'
  obtain ⟨m,rfl⟩:∃j,m=j+1:=⟨m - 1,by omega⟩
  have U:m≤l.length:=by simpa using hm
  show B5 d (a::tr l m r)=_
  rw [B5,if_neg (by rw [Ks (by omega) U];exact hc),if_pos ⟨hk.1,by rw [Ks (by omega) U];exact hk.2⟩,if_neg hd,IG (by omega) U,ih (by rw [List.length_drop];omega) hk' (by omega)]
  rfl
 |case5 d a l hc hk ih=>
  obtain ⟨k,hk',rfl⟩:=Option.map_eq_some_iff.1 h
  have h2:=GD _ _ _ hk'
  obtain ⟨m,rfl⟩:∃j,m=j+1:=⟨m - 1,by omega⟩
  have U:m≤l.length:=by simpa using hm
  show B5 d (a::tr l m r)=_
  rw [B5,if_neg (by rw [Ks (by omega) U];exact hc),if_neg (by rw [Ks (by omega) U];exact hk),ih U hk' (by omega)]
  rfl
def l6 (r:List UInt8):Prop:=AQ r= -1∨AQ r=10
theorem l6.pW {r:List UInt8} (h:l6 r):o4 r:=by unfold l6 at h;unfold o4;omega
theorem mE {l r:List UInt8} {m:Nat} (hr:l6 r) (U:m≤l.length) (h:Db l≤m):Db (tr l m r)=Db l:=by
 have e0:Db r=0:=by
  cases r with
  |nil=>rfl
  |cons a r=>
   unfold l6 at hr
   have:((a.toNat:Nat):Int)=AQ (a::r):=rfl
   rw [Db,if_pos ((V9 _).2 (by omega))]
 induction l generalizing m with
 |nil=>
  have:m=0:=by simpa using U
  subst this
  rw [N4,e0];rfl
 |cons a l ih=>
  cases m with
  |zero=>rw [N4,e0];omega
  |succ m=>
   have hl:m≤l.length:=by simpa using U
   show Db (a::tr l m r)=_
   have hp:0<GG (a::tr l m r)↔0<GG (a::l):=by rw [V9,V9];exact Iff.rfl
   unfold Db at h ⊢
   by_cases hc:0<GG (a::l)
   ·rw [if_pos hc,if_pos (hp.2 hc)]
   ·rw [if_neg hc] at h
    rw [if_neg hc,if_neg (fun x=>hc (hp.1 x)),ih hl (by omega)]
theorem aK {l r:List UInt8} {m:Nat} (hr:l6 r) (hv:Vd l) (hb:Bd l m) (U:m≤l.length) (h:0<El l) (hn:El l≤m):El (tr l m r)=El l:=by
 unfold El at h hn ⊢
 dsimp only at h hn ⊢
 split at h
 ·rename_i hc
  rw [if_pos hc] at hn ⊢
  have e:BI (fun c=>AF c==5) (tr l m r)=BI (fun c=>AF c==5) l:=kQ hv hb U (gp (p:=fun c=>AF c==5) hr.pW (by decide) (by decide)) (show Bj _ l≤m by show BI (fun c=>AF c==5) l≤m;omega)
  rw [e,kX (by omega) U,if_pos hc,IG (by omega) U,mE hr (by rw [List.length_drop];omega) (by omega)]
 ·omega
theorem kA {l r:List UInt8} {m n:Nat} (hr:l6 r) (hv:Vd l) (hb:Bd l m) (U:m≤l.length) (h0:0<n) (h:Dl l=n) (hn:n≤m):Dl (tr l m r)=n:=by
 unfold Dl at h ⊢
 split at h
 ·rename_i hc
  cases ht:B5 1 (l.drop 2) with
  |none=>rw [ht] at h;simp only [Ec] at h;omega
  |some k=>
   rw [ht] at h
   simp only [Ec] at h
   have h2:=GD _ _ _ ht
   rw [Ks (by omega) U,gG (by omega) U,if_pos hc,IG (by omega) U,kv (by rw [List.length_drop];omega) ht (by omega)]
   simp only [Ec];omega
 ·rename_i hc
  split at h
  ·rename_i hd
   have h:El l=n:=by omega
   rw [Ks (by omega) U,if_neg,if_pos hd,aK hr hv hb U (by omega) (by omega),h]
   rintro ⟨x,_⟩;omega
  ·omega
theorem av {l:List UInt8} {n:Nat} (U:Vd l) (h0:0<n) (h:Dl l=n):Dl (l.take n)=(l.take n).length∧(l.take n).length=n:=by
 have hle:=Ua l
 have hc:=Bv.note U h
 have e:=kA (r:=[]) (.inl rfl) U hc.bd (by omega) h0 h (Nat.le_refl _)
 unfold tr at e
 rw [List.append_nil] at e
 have hl:(l.take n).length=n:=by rw [List.length_take];omega
 rw [hl];exact ⟨e,rfl⟩
end Go.Aw
namespace Go.Proofs.YtkidoddkbhchkaaGreatDoor
open Go Go.Aw
def pB (t:Tk):Int×Int:=(t.line,t.B7)
def pt (n:Nt):Int×Int:=(n.line,n.B7)
def lq (t:List UInt8):Prop:=t≠[]∧Dl t=(t.length:Nat)
structure Nf (s:List UInt8) (p:Nat) (x:Lx):Prop where
 t:x.Ak.Pairwise fun a b=>ai (pB a) (pB b)
 tp:∀a ∈ x.Ak,ai (pB a) (CR s p)
 n:x.notes.Pairwise fun a b=>ai (pt a) (pt b)∧a.Dd≤b.Dd
 np:∀a ∈ x.notes,ai (pt a) (CR s p)∧0≤a.Dd∧a.Dd≤x.Dd∧(a.wh=1∨a.wh=2∨a.wh=3)∧lq a.text
 g:0≤x.Dd∧x.Dd≤x.Ak.length
theorem fx {s:List UInt8} {a b:Nat}:AX s a b=(s.drop a).take (b - a):=by unfold AX;rw [List.drop_take]
theorem Nf.le {s:List UInt8} {p q:Nat} {x:Lx} (h:Nf s p x) (hp:Bv s p) (hq:Bv s q) (hpq:p<q):Nf s q x:=
 have l:=cf hp hq hpq
 ⟨h.t,fun a U=>(h.tp a U).trans l,h.n,fun a U=>⟨(h.np a U).1.trans l,(h.np a U).2⟩,h.g⟩
theorem Nf.tok {s:List UInt8} {p q:Nat} {k:Int} {x:Lx} (h:Nf s p x) (hp:Bv s p) (hq:Bv s q) (hpq:p<q):Nf s q (KL s p q k x):=by
 have h':=h.le hp hq hpq
 have hg:=h.g
 have hgg:x.Dd≤(KL s p q k x).Dd∧(KL s p q k x).Dd≤x.Dd+1:=by
  show x.Dd≤(if cntF k (AX s p q) then x.Dd+1 else x.Dd)∧(if cntF k (AX s p q) then x.Dd+1 else x.Dd)≤x.Dd+1
  split<;>omega
 refine ⟨?_,?_,h.n,fun a U=>?_,?_⟩
 ·refine List.pairwise_append.2 ⟨h.t,List.pairwise_singleton _ _,fun a U b hb=>?_⟩
  rw [List.mem_singleton] at hb;subst hb
  exact h.tp a U
 ·intro a U
  rcases List.mem_append.1 U with U|U
  ·exact h'.tp a U
  ·rw [List.mem_singleton] at U;subst U
   exact cf hp hq hpq
 ·have:=h'.np a U
  exact ⟨this.1,this.2.1,by omega,this.2.2.2⟩
 ·have:(KL s p q k x).Ak.length=x.Ak.length+1:=by simp [KL]
  omega
theorem Nf.note {s:List UInt8} {p q:Nat} {x:Lx} (hv:Vd s) (h:Nf s p x) (hp:Bv s p) (hq:Bv s q) (hpq:p<q) (hn:Dl (s.drop p)=(q - p:Nat)):Nf s q (QU s p q x):=by
 have h':=h.le hp hq hpq
 have hg:=h.g
 refine ⟨h.t,h'.tp,?_,?_,h.g⟩
 ·refine List.pairwise_append.2 ⟨h.n,List.pairwise_singleton _ _,fun a U b hb=>?_⟩
  rw [List.mem_singleton] at hb;subst hb
  exact ⟨(h.np a U).1,(h.np a U).2.2.1⟩
 ·intro a U
  rcases List.mem_append.1 U with U|U
  ·exact h'.np a U
  ·rw [List.mem_singleton] at U;subst U
   refine ⟨cf hp hq hpq,hg.1,Int.le_refl _,?_,?_⟩
   ·show (if cq s p q x then (if Qd s p q then (1:Int) else 2) else 3)=1∨(if cq s p q x then (if Qd s p q then (1:Int) else 2) else 3)=2∨(if cq s p q x then (if Qd s p q then (1:Int) else 2) else 3)=3
    split
    ·split
     ·exact .inl rfl
     ·exact .inr (.inl rfl)
    ·exact .inr (.inr rfl)
   ·show lq (AX s p q)
    rw [fx]
    have e:=av (hp.bd.vd hv) (by omega) hn
    refine ⟨fun e0=>?_,e.1⟩
    rw [e0] at e
    have:=e.2
    simp only [List.length_nil] at this;omega
theorem Nf.iz {s:List UInt8} {p:Nat} {x:Lx} (hv:Vd s) (h:Nf s p x) (U:Bv s p):Nf s (Dy s p) x:=by
 by_cases e:p=Dy s p
 ·rw [←e];exact h
 ·exact h.le U (U.iz hv) (by have:=(H3 U.le).1;omega)
end Go.Proofs.YtkidoddkbhchkaaGreatDoor
namespace Go.Aw
open Go
def mi (l:List UInt8):Nat:=BI (fun c=>AF c==1) l
def o8 (l:List UInt8):List UInt8:=l.drop (mi l)
def Cl (l:List UInt8):Prop:=Bj (fun d=> !(AF (d.1:Nat)==0)) l=l.length
theorem Vb {p:Nat×Nat→Bool} {l:List UInt8} {k:Nat} (hv:Vd l) (hb:Bd l k) (hk:k≤l.length) (h:Bj p l=l.length):Bj p (l.take k)=(l.take k).length∧Bj p (l.drop k)=(l.drop k).length:=by
 have e:l.take k=tr l k []:=by unfold tr;rw [List.append_nil]
 rw [e]
 induction hb with
 |zero l=>exact ⟨by rw [N4,D8];rfl,h⟩
 |@step l k U hb ih=>
  have hd:=cM (r:=[]) hv (by have:=DA l;omega) hk (.step U hb)
  have hl:=FK U
  have hp:=DA l
  have hc:p (AH l)=true:=by
   cases hc:p (AH l) with
   |true=>rfl
   |false=>rw [EC hc] at h;have:=List.length_pos_iff.2 U;omega
  have hne':tr l ((AH l).2+k) []≠[]:=fun e=>by
   have:=congrArg List.length e
   rw [SH hk] at this;simp only [List.length_nil] at this;omega
  rw [Co U hc] at h
  have ih:=ih (hv.rune U).2 (by rw [List.length_drop];omega) (by rw [List.length_drop];omega) (by unfold tr;rw [List.append_nil])
  rw [Co hne' (by rw [hd.1];exact hc),hd.1,IG (by omega) hk,show (AH l).2+k - (AH l).2=k by omega,ih.1]
  rw [List.drop_drop] at ih
  refine ⟨?_,ih.2⟩
  rw [SH hk,SH (by rw [List.length_drop];omega)]
  simp only [List.length_nil];omega
theorem Vd.take {l:List UInt8} {k:Nat} (U:Vd l) (hb:Bd l k) (hk:k≤l.length):Vd (l.take k):=(Vb (p:=C5) U hb hk U).1
theorem Cl.take {l:List UInt8} {k:Nat} (h:Cl l) (hv:Vd l) (hb:Bd l k) (U:k≤l.length):Cl (l.take k):=(Vb hv hb U h).1
theorem Cl.drop {l:List UInt8} {k:Nat} (h:Cl l) (hv:Vd l) (hb:Bd l k) (U:k≤l.length):Cl (l.drop k):=(Vb hv hb U h).2
theorem Cl.app {l t:List UInt8} (h:Cl l) (U:Vd l) (k:Cl t):Cl (l++t):=by
 unfold Cl at *
 rw [Q4 l t U,if_pos h,k,List.length_append]
theorem iw (l:List UInt8):mi (o8 l)=0:=by
 by_cases h:mi l<l.length
 ·have:=PM (fun c=>AF c==1) l h
  exact PK this
 ·have:o8 l=[]:=List.drop_eq_nil_iff.2 (by omega)
  rw [this];exact Q5 _
theorem Vd.sp:Vd [32]:=by unfold Vd;rw [Co (by simp) (by decide)];rw [show (([32]:List UInt8).drop (AH [32]).2)=[] from by rw [Dp (by decide)];rfl,D8,Dp (by decide)];rfl
theorem Vd.nl:Vd [10]:=by unfold Vd;rw [Co (by simp) (by decide)];rw [show (([10]:List UInt8).drop (AH [10]).2)=[] from by rw [Dp (by decide)];rfl,D8,Dp (by decide)];rfl
theorem Cl.sp:Cl [32]:=by unfold Cl;rw [Co (by simp) (by decide)];rw [show (([32]:List UInt8).drop (AH [32]).2)=[] from by rw [Dp (by decide)];rfl,D8,Dp (by decide)];rfl
theorem Cl.nl:Cl [10]:=by unfold Cl;rw [Co (by simp) (by decide)];rw [show (([10]:List UInt8).drop (AH [10]).2)=[] from by rw [Dp (by decide)];rfl,D8,Dp (by decide)];rfl
end Go.Aw
namespace Go.Proofs.YtkidoddkbhchkaaGreatDoor
open Go Go.Aw
def pk (l:List Tk):List (Int×List UInt8):=l.map fun t=>(t.kind,t.text)
def Qm (is:Option (List (Int×List UInt8))) (x:Lx) (r:Sum (Int×Int) Lx):Prop:=match is with
 |none=>∃e,r=.inl e
 |some is=>∃y,r=.inr y∧pk y.Ak=pk x.Ak++is.filter (fun t=>t.1 !=0)∧y.notes.map (·.text)=x.notes.map (·.text)++(is.filter (fun t=>t.1==0)).map (·.2)
theorem Qm.tok {o:Option (List (Int×List UInt8))} {s:List UInt8} {p q:Nat} {k:Int} {x:Lx} {r:Sum (Int×Int) Lx} (h:Qm o (KL s p q k x) r) (hk:k≠0) {t:List UInt8} (ht:t=AX s p q):Qm (o.map ((k,t)::·)) x r:=by
 subst ht
 cases o with
 |none=>exact h
 |some is=>
  obtain ⟨y,h1,h2,h3⟩:=h
  refine ⟨y,h1,?_,?_⟩
  ·have U:(((k,AX s p q)::is).filter fun t:Int×List UInt8=>t.1 !=0)=(k,AX s p q)::is.filter fun t=>t.1 !=0:=List.filter_cons_of_pos (by simpa using hk)
   rw [U,h2]
   simp [pk,KL]
  ·have U:(((k,AX s p q)::is).filter fun t:Int×List UInt8=>t.1==0)=is.filter fun t=>t.1==0:=List.filter_cons_of_neg (by simpa using hk)
   rw [U,h3];rfl
theorem Qm.note {o:Option (List (Int×List UInt8))} {s:List UInt8} {p q:Nat} {x:Lx} {r:Sum (Int×Int) Lx} (h:Qm o (QU s p q x) r) {t:List UInt8} (ht:t=AX s p q):Qm (o.map ((0,t)::·)) x r:=by
 subst ht
 cases o with
 |none=>exact h
 |some is=>
  obtain ⟨y,h1,h2,h3⟩:=h
  refine ⟨y,h1,?_,?_⟩
  ·have U:(((0,AX s p q)::is).filter fun t:Int×List UInt8=>t.1 !=0)=is.filter fun t=>t.1 !=0:=List.filter_cons_of_neg (by simp)
   rw [U,h2];rfl
  ·have U:(((0,AX s p q)::is).filter fun t:Int×List UInt8=>t.1==0)=(0,AX s p q)::is.filter fun t=>t.1==0:=List.filter_cons_of_pos (by simp)
   rw [U,h3]
   simp [QU]
def pV (s:List UInt8):Prop:=s.length≤16777216∧Vd s∧Cl s
theorem jT {s:List UInt8} {y:Lx} (h:Fs s=.inr y):pV s:=by
 unfold Fs at h
 split at h
 ·cases h
 ·split at h
  ·cases h
  ·rename_i h1 h2
   split at h
   ·cases h
   ·rename_i U
    refine ⟨by omega,cI (by omega),?_⟩
    unfold VP at U
    have hle:=LK (fun d=> !((fun c:Nat=>AF (c:Nat)==0) d.1)) s
    split at U
    ·omega
    ·show Bj (fun d=> !((fun c:Nat=>AF (c:Nat)==0) d.1)) s=_
     omega
theorem ez {s:List UInt8} {p:Nat} {x:Lx} (h:¬p<s.length):Gk s p x=.inr x:=by rw [Gk,dif_neg h]
theorem ey {s:List UInt8} {p:Nat} {x:Lx} (h:p<s.length) (U:(Ct s p).2≠0):Gk s p x=.inl ((p:Nat),(Ct s p).2):=by rw [Gk,dif_pos h,if_pos U]
theorem Z8 {s:List UInt8} {p q:Nat} {x:Lx} (h:p<s.length) (U:(Ct s p).2=0) (h2:(Ct s p).1=(q:Nat)) (h3:p<q):Gk s p x=Gk s (Dy s q) (QU s p q x):=by
 rw [Gk,dif_pos h,if_neg (fun e=>e U),if_pos (by omega),h2,Int.toNat_natCast,dif_pos h3]
theorem eA {s:List UInt8} {p:Nat} {x:Lx} (h:p<s.length) (U:(Ct s p).2=0) (h2:¬0<(Ct s p).1) (h3:(Cc s p).2.2≠0):Gk s p x=.inl ((Cc s p).2.1,(Cc s p).2.2):=by
 rw [Gk,dif_pos h,if_neg (fun e=>e U),if_neg h2,if_pos h3]
theorem eC {s:List UInt8} {p q:Nat} {x:Lx} (h:p<s.length) (U:(Ct s p).2=0) (h2:¬0<(Ct s p).1) (h3:(Cc s p).2.2=0) (h4:(Cc s p).2.1=(q:Nat)) (h5:p<q):Gk s p x=Gk s (Dy s q) (KL s p q (Cc s p).1 x):=by
 rw [Gk,dif_pos h,if_neg (fun e=>e U),if_neg h2,if_neg (fun e=>e h3),h4,Int.toNat_natCast,dif_pos h5]
structure LW where
 p:Nat
 sp:Nat
 x:Lx
 w1:AO
 w2:AO
 m:St
theorem bt (l:List Tk) (t:Tk):Av (l++[t])=Av l++[t.cells]:=by simp [Av]
theorem WQ (l:List Nt) (t:Nt):Hw (l++[t])=Hw l++[t.cells]:=by simp [Hw]
theorem Is (l:List Nt):(Hw l).length=l.length:=by simp [Hw]
theorem iA (s:List UInt8) (p:Nat):Dy s (Dy s p)=Dy s p:=by
 have h:=iw (s.drop p)
 have e:o8 (s.drop p)=s.drop (Dy s p):=by unfold o8;rw [List.drop_drop];rfl
 rw [e] at h
 exact Nat.add_eq_left.2 h
section
variable {st:St} {R:AM→St→Prop}
attribute [local irreducible] Go.Aw.Ai
theorem TU (c:Nat) (hc:c≤1114111):PC 42 [.int .i32 (c:Int)] ns fun r _=>r=.ret (.bool (AF (c:Int)==0)):=by
 refine Aa Ac [] Tryz.func42 rfl (by decide) ?_
 repeat' ((conv=>whnf);first|(refine Bc ?_;intros)|(refine Be ?_ ?_<;>intro _)|refine JL ?_)
 all_goals first|exact AB rfl (by simp [*])|(conv=>whnf;simp [*])
theorem eD {s:List UInt8} (h1:∀i e,Fs s=.inl (i,e)→R (.ret (.Bo [.slice 4 [] .full,.slice 5 [] .full,.int .i64 i,.int .i64 e])) st)
 (h1':∀i e st',st.le st'→Fs s=.inl (i,e)→R (.ret (.Bo [.slice 4 [] .full,.slice 5 [] .full,.int .i64 i,.int .i64 e])) st')
 (h2:∀x w1 w2 st',Fs s=.inr x→st.le st'→R (.ret (.Bo [.slice 4 (Av x.Ak) w1,.slice 5 (Hw x.notes) w2,.int .i64 0,.int .i64 0])) st'):PC 13 [.str s] st R:=by
 refine BF Ac [30] Tryz.func13 rfl (by decide) rfl ?_
 by_cases hl:16777216<s.length
 ·have e:Fs s=.inl (0,3):=by unfold Fs;rw [if_pos hl]
  refine As Ac ?_
  repeat' ((conv=>whnf);first|exact Cq|(refine Bc ?_;intros)|(refine Cr ?_ ?_ ?_;rotate_left)|(refine Be ?_ ?_<;>intro _)|refine Ka (fun _=>?_) ?_|refine WJ (fun _=>?_)|with_reducible refine WF ?_)
  exact fin (h1 _ _ e) rfl
 ·by_cases hk:(L0 s).2=0
  ·by_cases hx:0≤VP (fun c=>AF (c:Nat)==0) s
   ·have e:Fs s=.inl (VP (fun c=>AF (c:Nat)==0) s,70):=by unfold Fs;rw [if_neg hl,if_neg (fun x=>x hk),if_pos hx]
    refine As Ac ?_
    repeat' ((conv=>whnf);first|exact Cq|(refine Bc ?_;intros)|(refine Cr ?_ ?_ ?_;rotate_left)|(refine Be ?_ ?_<;>intro _)|refine Ka (fun _=>?_) ?_|refine WJ (fun _=>?_)|refine Ro ?_|refine Yf (p:=fun c=>AF (c:Nat)==0) TU ?_|with_reducible refine WF ?_)
    exact fin (h1 _ _ e) rfl
   ·have e:Fs s=Gk s (Dy s 0) oM:=by unfold Fs;rw [if_neg hl,if_neg (fun x=>x hk),if_neg hx]
    have hv:=cI hk
    refine Au (As Ac ?_)
    repeat' ((conv=>whnf);first|exact Cq|(refine Bc ?_;intros)|(refine Cr ?_ ?_ ?_;rotate_left)|(refine Be ?_ ?_<;>intro _)|refine Ka (fun _=>?_) ?_|with_reducible refine WF ?_)
    refine Au (As Ac ?_)
    repeat' ((conv=>whnf);first|exact Cq|(refine Bc ?_;intros)|(refine Cr ?_ ?_ ?_;rotate_left)|(refine Be ?_ ?_<;>intro _)|refine Ka (fun _=>?_) ?_|refine WJ (fun _=>?_)|with_reducible refine WF ?_)
    refine Au (As Ac ?_)
    repeat' ((conv=>whnf);first|exact Cq|(refine Bc ?_;intros)|(refine Cr ?_ ?_ ?_;rotate_left)|(refine Be ?_ ?_<;>intro _)|refine Ka (fun _=>?_) ?_|refine Ro ?_|with_reducible refine WF ?_)
    refine Au (As Ac ?_)
    repeat' ((conv=>whnf);first|exact Cq|(refine Bc ?_;intros)|(refine Cr ?_ ?_ ?_;rotate_left)|(refine Be ?_ ?_<;>intro _)|refine Ka (fun _=>?_) ?_|refine Yf (p:=fun c=>AF (c:Nat)==0) TU ?_|with_reducible refine WF ?_)
    refine Au (As Ac ?_)
    repeat' ((conv=>whnf);first|exact Cq|(refine Bc ?_;intros)|(refine Cr ?_ ?_ ?_;rotate_left)|(refine Be ?_ ?_<;>intro _)|refine Ka (fun _=>?_) ?_|refine Rk (fun b fb=>?_)|with_reducible refine WF ?_)
    have hb0:=fb.1
    have hq0:=H3 (s:=s) (p:=0) (by omega)
    refine As Ac ?_
    repeat' ((conv=>whnf);first|exact Cq|(refine Bc ?_;intros)|(refine Cr ?_ ?_ ?_;rotate_left)|(refine Be ?_ ?_<;>intro _)|refine Ka (fun _=>?_) ?_|refine K0 (p:=0) (by omega) (by omega) (St.AL _ _ _) ?_|with_reducible refine WF ?_)
    refine R1 (α:=LW) (fun _=>[]) [0,6] [] (fun y=>y.m) (fun y=>y.m.box b=some (NJ s y.p y.sp (CR s y.sp).1 (CR s y.sp).2 (Av y.x.Ak) (Hw y.x.notes) y.w1 y.w2 y.x.Dd y.x.ends y.x.j)∧BH st y.m y.w1 (y.x.Ak.length*4) y.w2 (y.x.notes.length*5)∧
     Bv s y.sp∧Bv s y.p∧y.sp≤y.p∧0≤y.x.Dd∧y.x.Dd≤y.p∧y.x.Ak.length≤y.p∧y.x.notes.length≤y.p∧Gk s (Dy s 0) oM=Gk s y.p y.x)
     (fun y=>s.length - y.p) ⟨Dy s 0,0,oM,.full,.full,_⟩ ⟨?_,⟨trivial,trivial,trivial,trivial,trivial,St.Am (St.Am (St.le_refl _) hb0 _) hb0 _⟩,.zero s,Bv.iz hv (.zero s),by simp only [];omega,Int.le_refl _,by simp only [oM];omega,Nat.zero_le _,Nat.zero_le _,rfl⟩ Yl (St.le_refl _) ?_
    ·have e0:CR s 0=(1,1):=EW
     dsimp only
     rw [e0]
     exact St.AL _ _ _
    rintro ⟨p,sp,x,w1,w2,m⟩ ⟨j1,j2,j3,j4,j5,j6,j7,j8,j9,U⟩
    dsimp only at j1 j2 j3 j4 j5 j6 j7 j8 j9 U ⊢
    have hp:=j4.le
    by_cases hpl:p<s.length
    ·have hns:=fun {R:AM→St→Prop}=>kz (st:=m) (R:=R) (s:=s) (pos:=p) (by omega) hpl
     by_cases n2:(Ct s p).2=0
     ·rw [n2] at hns
      by_cases n1:0<(Ct s p).1
      ·obtain ⟨q,e1,e2,e3,e4⟩:=Ub hv j4 n2 n1
       rw [e1] at hns
       rw [Z8 hpl n2 e1 e2] at U
       have hq:=H3 e3
       have hnt:=fun {R:AM→St→Prop}=>nt (st:=m) (R:=R) (st0:=st) (by omega) hv j3 j4 e4 j5 (by omega) ⟨j6,by omega⟩ (by rw [Is];omega) hb0 (by rw [Is];exact j2) j1
       repeat' ((conv=>whnf);first|exact Cq|(refine Bc ?_;intros)|(refine Cr ?_ ?_ ?_;rotate_left)|(refine Be ?_ ?_<;>intro _)|refine Ka (fun _=>?_) ?_|refine hns ?_|refine Aj j1 ?_|refine WJ (fun _=>?_)|refine hnt (fun v2 st' sp' c' hs' hR hB=>?_)|refine K0 (p:=Dy s q) (by omega) (by omega) hB ?_|with_reducible refine WF ?_)
       all_goals conv=>whnf
       have eb:=iA s q
       refine ⟨⟨Dy s q,sp',QU s p q x,w1,v2,_⟩,⟨?_,?_,c',e4.iz hv,hs',j6,by show x.Dd≤_;simp only [];omega,by show x.Ak.length≤_;simp only [];omega,by show (x.notes++[_]).length≤_;rw [List.length_append,List.length_singleton];simp only [];omega,U⟩,by simp only [];omega,Yl,St.le_refl _⟩
       ·refine (St.AL _ _ _).trans ?_
        show _=some (NJ s (Dy s q) sp' _ _ (Av x.Ak) (Hw (x.notes++[_])) w1 v2 x.Dd (CR s q).1 _)
        rw [WQ]
        exact congrArg (fun z=>some (NJ s z sp' _ _ _ _ _ _ _ _ _)) eb
       ·show BH st _ w1 (x.Ak.length*4) v2 ((x.notes++[_]).length*5)
        rw [List.length_append,List.length_singleton]
        rw [Is] at hR
        exact hR.set hb0 _
      ·have hlx:=fun {R:AM→St→Prop}=>eE (st:=m) (R:=R) (by omega) hpl j1
       by_cases k2:(Cc s p).2.2=0
       ·obtain ⟨k1,q,e1,e2,e3,e4⟩:=TV hv j4 k2
        rw [k2,e1] at hlx
        rw [eC hpl n2 n1 k2 e1 e2] at U
        have hq:=H3 e3
        have htk:=fun {R:AM→St→Prop}=>gE (st:=m) (R:=R) (st0:=st) (k:=(Cc s p).1) (e0:=0) (by omega) hv j3 j4 e4 j5 (by omega) ⟨j6,by omega⟩ (by rw [F2];omega) hb0 (by rw [F2];exact j2) j1
        repeat' ((conv=>whnf);first|exact Cq|(refine Bc ?_;intros)|(refine Cr ?_ ?_ ?_;rotate_left)|(refine Be ?_ ?_<;>intro _)|refine Ka (fun _=>?_) ?_|refine hns ?_|refine Aj j1 ?_|refine WJ (fun _=>?_)|refine hlx ?_|refine htk (fun v1 st' hR hB=>?_)|refine K0 (p:=q) (by omega) e3 hB ?_|with_reducible refine WF ?_)
        all_goals conv=>whnf
        have hgap:(KL s p q (Cc s p).1 x).Dd=x.Dd∨(KL s p q (Cc s p).1 x).Dd=x.Dd+1:=by
         show (if cntF (Cc s p).1 (AX s p q) then x.Dd+1 else x.Dd)=_∨(if cntF (Cc s p).1 (AX s p q) then x.Dd+1 else x.Dd)=_
         split
         ·exact .inr rfl
         ·exact .inl rfl
        refine ⟨⟨Dy s q,q,KL s p q (Cc s p).1 x,v1,w2,_⟩,⟨?_,?_,e4,e4.iz hv,hq.1,by simp only [];omega,by simp only [];omega,by show (x.Ak++[_]).length≤_;rw [List.length_append,List.length_singleton];simp only [];omega,by show x.notes.length≤_;simp only [];omega,U⟩,by simp only [];omega,Yl,St.le_refl _⟩
        ·refine (St.AL _ _ _).trans ?_
         show _=some (NJ s (Dy s q) q _ _ (Av (x.Ak++[_])) (Hw x.notes) v1 w2 _ (CR s q).1 true)
         rw [bt]
         rfl
        ·show BH st _ v1 ((x.Ak++[_]).length*4) w2 (x.notes.length*5)
         rw [List.length_append,List.length_singleton]
         rw [F2] at hR
         exact hR.set hb0 _
       ·rw [eA hpl n2 n1 k2] at U
        repeat' ((conv=>whnf);first|exact Cq|(refine Bc ?_;intros)|(refine Cr ?_ ?_ ?_;rotate_left)|(refine Be ?_ ?_<;>intro _)|refine Ka (fun _=>?_) ?_|refine hns ?_|refine Aj j1 ?_|refine WJ (fun _=>?_)|refine hlx ?_|with_reducible refine WF ?_)
        exact fin (h1' _ _ _ j2.le (e.trans U)) rfl
     ·rw [ey hpl n2] at U
      repeat' ((conv=>whnf);first|exact Cq|(refine Bc ?_;intros)|(refine Cr ?_ ?_ ?_;rotate_left)|(refine Be ?_ ?_<;>intro _)|refine Ka (fun _=>?_) ?_|refine hns ?_|refine Aj j1 ?_|refine WJ (fun _=>?_)|with_reducible refine WF ?_)
      exact fin (h1' _ _ _ j2.le (e.trans U)) rfl
    ·rw [ez hpl] at U
     repeat' ((conv=>whnf);first|exact Cq|(refine Bc ?_;intros)|(refine Cr ?_ ?_ ?_;rotate_left)|(refine Be ?_ ?_<;>intro _)|refine Ka (fun _=>?_) ?_|refine Aj j1 ?_|refine WJ (fun _=>?_)|with_reducible refine WF ?_)
     exact fin (h2 x w1 w2 m (e.trans U) j2.le) rfl
  ·have e:Fs s=.inl ((L0 s).1,(L0 s).2):=by unfold Fs;rw [if_neg hl,if_pos hk]
   refine As Ac ?_
   repeat' ((conv=>whnf);first|exact Cq|(refine Bc ?_;intros)|(refine Cr ?_ ?_ ?_;rotate_left)|(refine Be ?_ ?_<;>intro _)|refine Ka (fun _=>?_) ?_|refine WJ (fun _=>?_)|refine Ro ?_|with_reducible refine WF ?_)
   exact fin (h1 _ _ e) rfl
end
def Y4 (l:List Tk):Prop:=∀t ∈ l,t.text.length≤100000000∧ -1000000000≤t.line∧t.line≤1000000000
theorem Y4.at {l:List Tk} (h:Y4 l) {i:Nat} {t:Tk} (e:l[i]? =some t):t.text.length≤100000000∧ -1000000000≤t.line∧t.line≤1000000000:=h t (List.mem_of_getElem? e)
theorem l3 {L:Nat} {r:Loop} {Im:Mem} {v:V} {m U:Int} {st:St} {K K':St→Prop} (h:YS Tryz.prog L r Im [v,.int .i64 U] st K) (e:U=m) (k:∀st,K st→K' st):YS Tryz.prog L r Im [v,.int .i64 m] st K':=by subst e;exact h.mono k
section
variable {st:St} {l:List Tk} {own:AO} {c L:Nat} {r:Loop} {Im:Mem}
attribute [local irreducible] Go.Aw.Ai
theorem mS (hok:Y4 l) (hn:l.length≤100000000) {J:Nat→St→Prop} (hJ:∀i st,J i st→st.box c=some [.slice 4 (Av l) own]) (hY:∀i st,i<l.length→J i st→YS Tryz.prog L r Im [.int .i64 (i:Int),.int .i64 (Fe l i)] st (J (i+1))) (h0:J 0 st)
 {I:Mem} {w:World} {cargs:List Value} (hm:Im.le I) (hs:Ck I st w) (U:Ag I [.ptr c 0] cargs) (hl:w.heap[L]? =some (.loop r)) (hi:Idle L st):
 Calls Tryz.prog 164 (Value.func (.yield L) #[] #[]::cargs).toArray w fun e w'=>(∃v,e=.returned v)∧∃I' st',Fr I st w I' st' w'∧Ck I' st' w'∧J l.length st':=by
 refine Rn Ac Tryz.func164 rfl rfl (r:=r) (Im:=Im) (args:=[.bJ L,.ptr c 0]) (K:=J l.length) rfl ?_ hm hs (by
  simp only [Ag] at U ⊢
  exact ⟨_,_,rfl,by simp only [Az],U⟩) hl hi
 have hb:=hJ 0 st h0
 refine FJ (N6.of (As Ac ?_))
 repeat' ((conv=>whnf);first|exact Cq|(refine Bc ?_;intros)|(refine Cr ?_ ?_ ?_;rotate_left)|(refine Be ?_ ?_<;>intro _)|refine At hb ?_|with_reducible refine WF ?_)
 refine Ql ?_
 refine bL ?_
 refine Pb (α:=Nat×St) (fun x=>[(8,.int .i64 (x.1:Int))]) (fun _=>[]) [0,1,6,7] [] (fun x=>x.2) (fun x=>x.1≤l.length∧J x.1 x.2) (fun x=>l.length - x.1) (0,st) ⟨Nat.zero_le _,h0⟩ Yl (St.le_refl _) ?_
 rintro ⟨i,st1⟩ ⟨hi1,hj⟩
 dsimp only at hi1 hj ⊢
 have hb1:=hJ i st1 hj
 refine FJ (N6.of (As Ac ?_))
 by_cases hlt:i<l.length
 ·obtain ⟨t,ht⟩:∃t,l[(i:Int).toNat]? =some t:=⟨_,List.getElem?_eq_getElem (by omega)⟩
  have ht':l[i]? =some t:=ht
  have hlt2:(i:Int)<(l.length:Int):=by omega
  repeat' ((conv=>whnf);first|exact Cq|(refine Bc ?_;intros)|(refine Cr ?_ ?_ ?_;rotate_left)|(refine Be ?_ ?_<;>intro _)|with_reducible refine WF ?_)
  refine FJ (N6.of (As Ac ?_))
  repeat' ((conv=>whnf);first|exact Cq|(refine Bc ?_;intros)|(refine Cr ?_ ?_ ?_;rotate_left)|(refine Be ?_ ?_<;>intro _)|with_reducible refine WF ?_)
  refine FJ ?_
  refine Ql ?_
  refine FJ (N6.of (As Ac ?_))
  repeat' ((conv=>whnf);first|exact Cq|(refine Bc ?_;intros)|(refine Cr ?_ ?_ ?_;rotate_left)|(refine Be ?_ ?_<;>intro _)|with_reducible refine WF ?_)
  refine FJ (N6.of (As Ac ?_))
  repeat' ((conv=>whnf);first|exact Cq|(refine Bc ?_;intros)|(refine Cr ?_ ?_ ?_;rotate_left)|(refine Be ?_ ?_<;>intro _)|with_reducible refine WF ?_)
  have hy:=hY i st1 hlt hj
  refine FJ (N6.of (As Ac ?_))
  have ho:=hok.at ht'
  clear hY U hs hm hl hi
  by_cases hz:i=0
  ·subst hz
   have hma:Fe l 0=if (VR t 9 [109,111,100,117,108,101]||VR t 15 [123])=true then 17 else 16:=by unfold Fe;rw [ht'];rfl
   repeat' ((conv=>whnf);first|exact Cq|(refine Bc ?_;intros)|(refine Cr ?_ ?_ ?_;rotate_left)|(refine Be ?_ ?_<;>intro _)|refine lI ?_|with_reducible refine WF ?_)
   all_goals refine FJ (Xu Ac 3 rfl rfl rfl rfl rfl ?_)
   all_goals (repeat' ((conv=>whnf);first|exact Cq|(refine Bc ?_;intros)|(refine Cr ?_ ?_ ?_;rotate_left)|(refine Be ?_ ?_<;>intro _)|refine ⟨rfl,?_⟩|refine l3 hy (by rw [hma]<;>simp [*]) (fun st2 hj2=>?_)|with_reducible refine WF ?_))
   all_goals refine N6.of (As Ac ?_)
   all_goals (repeat' ((conv=>whnf);first|exact Cq|(refine Bc ?_;intros)|(refine Cr ?_ ?_ ?_;rotate_left)|(refine Be ?_ ?_<;>intro _)|with_reducible refine WF ?_))
   all_goals refine N6.of (As Ac ?_)
   all_goals (repeat' ((conv=>whnf);first|exact Cq|(refine Bc ?_;intros)|(refine Cr ?_ ?_ ?_;rotate_left)|(refine Be ?_ ?_<;>intro _)|with_reducible refine WF ?_))
   all_goals conv=>whnf
   all_goals exact ⟨(0+1,st2),⟨hlt,hj2⟩,by dsimp only;omega,Yl,St.le_refl _⟩
  ·obtain ⟨p,hp⟩:∃p,l[((i:Int) - 1).toNat]? =some p:=⟨_,List.getElem?_eq_getElem (by omega)⟩
   have hp':l[i - 1]? =some p:=by rw [←hp];congr 1;omega
   have hop:=hok.at hp'
   have hma:Fe l i=T0 (some p) t:=by unfold Fe ahead;rw [ht',if_neg hz,hp']
   unfold T0 at hma
   have hz2:¬(i:Int)=0:=by omega
   repeat' ((conv=>whnf);first|exact Cq|(refine Bc ?_;intros)|(refine Cr ?_ ?_ ?_;rotate_left)|(refine Be ?_ ?_<;>intro _)|refine At hb1 ?_|refine lI ?_|refine Pm ?_|refine mD hop.1 hop.2.1 hop.2.2 ?_|refine Ar [(0,true),(1,true),(2,true),(3,true),(4,true),(5,true),(6,true),(7,true),(8,true),(9,true),(10,true),(11,true),(12,true),(13,true),(14,true),(15,true),(16,true),(17,false),(18,true),(19,true),(20,true)] [] (by decide +kernel) ?_|with_reducible refine WF ?_)
   all_goals refine FJ (Xu Ac 3 rfl rfl rfl rfl rfl ?_)
   all_goals (repeat' ((conv=>whnf);first|exact Cq|(refine Bc ?_;intros)|(refine Cr ?_ ?_ ?_;rotate_left)|(refine Be ?_ ?_<;>intro _)|refine ⟨rfl,?_⟩|refine l3 hy (by rw [hma]<;>simp [*]) (fun st2 hj2=>?_)|with_reducible refine WF ?_))
   all_goals refine N6.of (As Ac ?_)
   all_goals (repeat' ((conv=>whnf);first|exact Cq|(refine Bc ?_;intros)|(refine Cr ?_ ?_ ?_;rotate_left)|(refine Be ?_ ?_<;>intro _)|with_reducible refine WF ?_))
   all_goals refine N6.of (As Ac ?_)
   all_goals (repeat' ((conv=>whnf);first|exact Cq|(refine Bc ?_;intros)|(refine Cr ?_ ?_ ?_;rotate_left)|(refine Be ?_ ?_<;>intro _)|with_reducible refine WF ?_))
   all_goals conv=>whnf
   all_goals exact ⟨(i+1,st2),⟨hlt,hj2⟩,by dsimp only;omega,Yl,St.le_refl _⟩
 ·have hlt2:¬(i:Int)<(l.length:Int):=by omega
  obtain rfl:i=l.length:=by omega
  repeat' ((conv=>whnf);first|exact Cq|(refine Bc ?_;intros)|(refine Cr ?_ ?_ ?_;rotate_left)|(refine Be ?_ ?_<;>intro _)|with_reducible refine WF ?_)
  refine FJ (N6.of (As Ac ?_))
  repeat' ((conv=>whnf);first|exact Cq|(refine Bc ?_;intros)|(refine Cr ?_ ?_ ?_;rotate_left)|(refine Be ?_ ?_<;>intro _)|with_reducible refine WF ?_)
  all_goals conv=>whnf
  all_goals exact ⟨.inl rfl,hj⟩
end
end Go.Proofs.YtkidoddkbhchkaaGreatDoor
namespace Go.Aw
theorem AO.Ms {own:AO} {S:St} {n:Nat}:(own.st S n).box=S.box:=by cases own<;>rfl
theorem AO.SD {own:AO} {S:St} {n b:Nat} {C:List V}:(own.st S n).Ab b C=own.st (S.Ab b C) n:=by cases own<;>rfl
theorem UK {own:AO} {S:St} {n b:Nat} {C:List V}:(own.st (S.Ab b C) n).box b=some C:=by rw [AO.Ms];simp [St.Ab]
theorem AO.HC {own:AO} {S:St} {b:Nat} {C:List V} (h:own.Bn S) (hb:S.box b≠none):own.Bn (S.Ab b C):=by
 cases own with
 |any=>exact h
 |full=>exact trivial
 |tok t=>
  have h:S.fresh t:=h
  refine (show (S.Ab b C).fresh t from ⟨?_,h.2⟩)
  have:t≠b:=by rintro rfl;exact hb h.1
  simp only [St.Ab]
  rw [if_neg this];exact h.1
theorem AO.O2 {own:AO} {S:St} {b:Nat} {C D:List V} (h:own.Bn (S.Ab b C)):own.Bn (S.Ab b D):=by
 cases own with
 |any=>exact h
 |full=>exact trivial
 |tok t=>
  have h:(S.Ab b C).fresh t:=h
  refine (show (S.Ab b D).fresh t from ⟨?_,h.2⟩)
  have U:=h.1
  simp only [St.Ab] at U ⊢
  split at U
  ·cases U
  ·rename_i e;rw [if_neg e];exact U
end Go.Aw
namespace Go.Proofs.YtkidoddkbhchkaaGreatDoor
open Go Go.Aw
theorem FM (l:List Tk):(Av l).length=l.length:=by unfold Av;rw [List.length_map]
theorem KU {l:List Tk} {x:Tk} {own:AO} {st:St} {K:V→St→Prop} (h:own.Bn st) (hb:l.length+1≤1000000000)
 (k:∀U:AO,U.Bn st→K (.slice 4 (Av (l++[x])) U) (U.st st ((l++[x]).length*4))):Ai 4 40 (Av l) own [x.cells] (own.st st (l.length*4)) K:=by
 have:=DZ (sz:=4) (bytes:=40) (es:=Av l) (new:=[x.cells]) (K:=K) h (by rw [FM];show (l.length+1)*40≤_;omega) (by rw [FM];show l.length+1<De;simp only [De];omega) rfl (fun U ho=>by
  have:=k U ho
  rw [FM]
  have e:Av l++[x.cells].map (·.map V.IU)=Av (l++[x]):=by unfold Av;rw [List.map_append];rfl
  rw [e]
  rw [List.length_append] at this
  exact this)
 rw [FM] at this
 exact this
abbrev nX (m:Int) (t:Tk):Tk:=⟨m,[],t.line,t.B7⟩
theorem Zo {f:FuncId} {args:List V} {st:St} {K:AM→St→Prop} {c:Bool} (U:∀(st:St) (K:AM→St→Prop),K (.ret (.bool c)) st→PC f args st K) (e:c=true) (k:K (.ret (.bool true)) st):PC f args st K:=U st K (by rw [e];exact k)
theorem cv {f:FuncId} {args:List V} {st:St} {K:AM→St→Prop} {c:Bool} (U:∀(st:St) (K:AM→St→Prop),K (.ret (.bool c)) st→PC f args st K) (e:c=false) (k:K (.ret (.bool false)) st):PC f args st K:=U st K (by rw [e];exact k)
theorem Hr {st:St} {b c:Nat} {cs:List V} (h:b≠c):(st.Ab b cs).box c=st.box c:=by simp [St.Ab,Ne.symm h]
theorem ig {l:List Tk} {x:Tk} {own:AO} {S:St} {b:Nat} {C:List V} {K:V→St→Prop} (h:own.Bn (S.Ab b C)) (hb:l.length+1≤1000000000)
 (k:∀U:AO,U.Bn (S.Ab b C)→K (.slice 4 (Av (l++[x])) U) (U.st (S.Ab b C) ((l++[x]).length*4))):Ai 4 40 (Av l) own [x.cells] ((own.st S (l.length*4)).Ab b C) K:=by
 rw [AO.SD];exact KU h hb k
theorem Pf:∀(a:List Tk) (p:Option Tk) (t:Tk),DJ p (a++[t])=DJ p a++markT (T0 (a.getLast?.or p) t) t
 |[],p,t=>by simp [DJ]
 |x::r,p,t=>by
  rw [List.cons_append,DJ,Pf r (some x) t,DJ,List.append_assoc]
  congr 3
  cases r with
  |nil=>rfl
  |cons y r=>rw [List.getLast?_cons_cons];cases h:(y::r).getLast? with
   |none=>simp at h
   |some z=>rfl
theorem Mg:∀(a:List Tk) (p:Option Tk),(DJ p a).length≤2*a.length
 |[],p=>Nat.le_refl _
 |x::r,p=>by
  have:=Mg r (some x)
  rw [DJ,List.length_append,List.length_cons]
  unfold markT
  split<;>simp only [List.length_cons,List.length_nil]<;>omega
theorem V2 {l:List Tk} {i:Nat} {t:Tk} (h:l[i]? =some t):DJ none (l.take (i+1))=DJ none (l.take i)++markT (Fe l i) t:=by
 have U:=(List.getElem?_eq_some_iff.1 h).1
 have e:l.take (i+1)=l.take i++[t]:=by rw [List.take_add_one,h];rfl
 rw [e,Pf]
 congr 3
 unfold Fe ahead
 rw [h]
 dsimp only
 congr 1
 cases i with
 |zero=>rfl
 |succ i=>
  rw [if_neg (by omega),List.getLast?_take,if_neg (by omega)]
  have:l[i+1 - 1]? =some l[i]:=by rw [Nat.add_sub_cancel];exact List.getElem?_eq_getElem (by omega)
  rw [this];rfl
section
variable {st:St} {l:List Tk} {own:AO} {K:AM→St→Prop}
attribute [local irreducible] Go.Aw.Ai
theorem ki (hok:Y4 l) (hn:l.length≤100000000) (h:K (.ret (.slice 4 (Av (HG l)) .any)) st):PC 54 [.slice 4 (Av l) own] st K:=by
 refine A5.ends (Sl Ac Tryz.func54 rfl (by decide) rfl ?_)
 refine As Ac ?_
 repeat' ((conv=>whnf);first|exact Cq|(refine Bc ?_;intros)|(refine Cr ?_ ?_ ?_;rotate_left)|(refine Be ?_ ?_<;>intro _)|refine Ka (fun _=>?_) ?_|with_reducible refine WF ?_)
 refine As Ac ?_
 repeat' ((conv=>whnf);first|exact Cq|(refine Bc ?_;intros)|(refine Cr ?_ ?_ ?_;rotate_left)|(refine Be ?_ ?_<;>intro _)|refine Ka (fun _=>?_) ?_|refine ⟨⟨by omega,by omega,by omega,(by unfold De<;>omega)⟩,.inl ⟨rfl,fun b0 f0=>?_⟩⟩|with_reducible refine WF ?_)
 refine As Ac ?_
 repeat' ((conv=>whnf);first|exact Cq|(refine Bc ?_;intros)|(refine Cr ?_ ?_ ?_;rotate_left)|(refine Be ?_ ?_<;>intro _)|refine Ka (fun _=>?_) ?_|refine kS (fun c fc=>?_)|with_reducible refine WF ?_)
 conv=>whnf
 refine bI.pM 1 0 rfl rfl rfl (fun b1 f1=>?_)
 refine bI.pM 3 1 rfl rfl rfl (fun b3 f3=>?_)
 refine bI.here ?_
 obtain ⟨S,hS⟩:∃S,S=(st.Ab c [.slice 4 (Av l) own]).Ab b1 [.slice 4 (Av l) own]:=⟨_,rfl⟩
 have n0c:c≠b0:=by
  rintro rfl
  have:=fc.2
  simp [St.BC] at this
 have n01:b1≠b0:=by
  rintro rfl
  have:=f1.2
  simp [St.BC,St.Ab] at this
 have n03:b3≠b0:=by
  rintro rfl
  have:=f3.2
  simp [St.BC,St.Ab] at this
 have nc1:b1≠c:=by
  rintro rfl
  have:=f1.1
  rw [St.Ah] at this;cases this
 have n31:b3≠b1:=by
  rintro rfl
  have:=f3.1
  rw [St.Ah] at this;cases this
 have n3c:b3≠c:=by
  rintro rfl
  have:=f3.1
  rw [Hr (Ne.symm n31),St.Ah] at this;cases this
 have fc0:st.box c=none:=fc.1
 have f10:st.box b1=none:=by have:=f1.1;rw [Hr (Ne.symm nc1)] at this;exact this
 have f30:st.box b3=none:=by have:=f3.1;rw [Hr (Ne.symm n31),Hr (Ne.symm n3c)] at this;exact this
 have hSc:S.box c=some [.slice 4 (Av l) own]:=by rw [hS,Hr nc1,St.Ah]
 have hS1:S.box b1=some [.slice 4 (Av l) own]:=by rw [hS,St.Ah]
 have hle:∀X,st.le (S.Ab b3 X):=fun X=>by
  rw [hS];exact St.Am (St.Am (St.Am (St.le_refl _) fc0 _) f10 _) f30 _
 have hgo:AO.Bn (S.Ab b3 [.slice 4 [] (.tok b0)]) (.tok b0):=by
  refine (show (S.Ab b3 _).fresh b0 from ⟨?_,by rw [hS];exact f0.2⟩)
  rw [Hr n03,hS,Hr n01,Hr n0c];exact f0.1
 obtain ⟨J,hJ⟩:∃J:Nat→St→Prop,J=fun i st'=>∃o:AO,o.Bn (S.Ab b3 [.slice 4 (Av (DJ none (l.take i))) o])∧st'=o.st (S.Ab b3 [.slice 4 (Av (DJ none (l.take i))) o]) ((DJ none (l.take i)).length*4):=⟨_,rfl⟩
 refine ⟨⟨rfl,rfl⟩,164,[.ptr c 0],J l.length,⟨rfl,⟨_,Tryz.func164,by decide,by decide⟩⟩,?_,?_⟩
 ·intro D B Im β a wm L df fi hF I w cargs hm hs hargs hl hi
  refine mS (own:=own) hok hn (J:=J) (fun i st1 hj=>?_) (fun i st1 hlt hj=>?_) ?_ hm hs hargs hl hi
  ·rw [hJ] at hj
   obtain ⟨o,_,rfl⟩:=hj
   rw [AO.Ms,Hr n3c,hSc]
  ·refine gR Ac hF rfl rfl rfl (by decide) rfl rfl ?_
   rw [hJ] at hj
   obtain ⟨o,hgo,rfl⟩:=hj
   obtain ⟨t,ht⟩:∃t,l[(i:Int).toNat]? =some t:=⟨_,List.getElem?_eq_getElem (by omega)⟩
   have htk:=V2 (l:=l) (i:=i) (t:=t) ht
   have hlen2:=Mg (l.take i) none
   have hti:(l.take i).length≤l.length:=by rw [List.length_take];omega
   generalize hout:DJ none (l.take i)=out at *
   have hb3:(o.st (S.Ab b3 [.slice 4 (Av out) o]) (out.length*4)).box b3=some [.slice 4 (Av out) o]:=by rw [AO.Ms,St.Ah]
   have hb1:(o.st (S.Ab b3 [.slice 4 (Av out) o]) (out.length*4)).box b1=some [.slice 4 (Av l) own]:=by rw [AO.Ms,Hr n31,hS1]
   have hlo:out.length+1≤1000000000:=by omega
   unfold YO
   by_cases hz:Fe l i=0
   ·have hfin:∀o2:AO,o2.Bn (S.Ab b3 [.slice 4 (Av out) o])→J (i+1) ((o2.st (S.Ab b3 [.slice 4 (Av out) o]) ((out++[t]).length*4)).Ab b3 [.slice 4 (Av (out++[t])) o2]):=fun o2 h2=>by
     rw [hJ]
     refine ⟨o2,?_,?_⟩
     ·rw [htk];unfold markT;rw [if_pos hz];exact AO.O2 h2
     ·rw [htk];unfold markT;rw [if_pos hz,AO.SD,St.set_set]
    repeat' ((conv=>whnf);first|exact Cq|(refine Bc ?_;intros)|(refine Cr ?_ ?_ ?_;rotate_left)|(refine Be ?_ ?_<;>intro _)|refine Ka (fun _=>?_) ?_|refine ⟨⟨rfl,rfl⟩,?_⟩|refine At hb3 ?_|refine At hb1 ?_|refine KU (x:=t) hgo hlo (fun o2 h2=>?_)|refine At UK ?_|exact hfin o2 h2|refine Ar [(0,true),(1,true),(2,true),(3,true),(4,true),(5,true),(6,true),(7,true),(8,true),(9,true),(10,true),(11,true),(12,true),(13,true),(14,false),(15,false)] [1] (by decide +kernel) ?_|refine Ar [(0,true),(1,true),(2,true),(3,true),(4,true),(5,true),(6,false),(7,false)] [1] (by decide +kernel) ?_|with_reducible refine WF ?_)
   ·have hlo2:(out++[nX (Fe l i) t]).length+1≤1000000000:=by rw [List.length_append,List.length_singleton];omega
    have hfin:∀o2 o3:AO,o2.Bn (S.Ab b3 [.slice 4 (Av out) o])→o3.Bn ((S.Ab b3 [.slice 4 (Av out) o]).Ab b3 [.slice 4 (Av (out++[nX (Fe l i) t])) o2])→
     J (i+1) ((o3.st ((S.Ab b3 [.slice 4 (Av out) o]).Ab b3 [.slice 4 (Av (out++[nX (Fe l i) t])) o2]) ((out++[nX (Fe l i) t]++[t]).length*4)).Ab b3 [.slice 4 (Av (out++[nX (Fe l i) t]++[t])) o3]):=fun o2 o3 h2 h3=>by
     rw [hJ]
     refine ⟨o3,?_,?_⟩
     ·rw [htk];unfold markT;rw [if_neg hz,St.set_set] at *;exact AO.O2 h3
     ·rw [htk];unfold markT;rw [if_neg hz,AO.SD,St.set_set,St.set_set,List.append_assoc];rfl
    have hb1':∀(o2:AO) n C,((o2.st (S.Ab b3 [.slice 4 (Av out) o]) n).Ab b3 C).box b1=some [.slice 4 (Av l) own]:=fun o2 n C=>by rw [Hr n31,AO.Ms,Hr n31,hS1]
    repeat' ((conv=>whnf);first|exact Cq|(refine Bc ?_;intros)|(refine Cr ?_ ?_ ?_;rotate_left)|(refine Be ?_ ?_<;>intro _)|refine Ka (fun _=>?_) ?_|refine ⟨⟨rfl,rfl⟩,?_⟩|refine At hb3 ?_|refine At hb1 ?_|refine At (hb1' _ _ _) ?_|refine At (St.Ah ..) ?_|refine KU (x:=nX (Fe l i) t) hgo hlo (fun o2 h2=>?_)|refine ig (x:=t) (AO.HC h2 (by rw [St.Ah]<;>simp)) hlo2 (fun o3 h3=>?_)|refine At UK ?_|exact hfin o2 o3 h2 h3|refine Ar [(0,true),(1,true),(2,true),(3,true),(4,true),(5,true),(6,true),(7,true),(8,true),(9,true),(10,true),(11,true),(12,true),(13,true),(14,false),(15,false)] [1] (by decide +kernel) ?_|refine Ar [(0,true),(1,true),(2,true),(3,true),(4,true),(5,true),(6,false),(7,false)] [1] (by decide +kernel) ?_|with_reducible refine WF ?_)
  ·rw [hJ]
   exact ⟨.tok b0,hgo,by rw [hS];rfl⟩
 ·intro st' hk
  rw [hJ,List.take_length] at hk
  obtain ⟨o,hgo,rfl⟩:=hk
  have hb3:(o.st (S.Ab b3 [.slice 4 (Av (DJ none l)) o]) ((DJ none l).length*4)).box b3=some [.slice 4 (Av (DJ none l)) o]:=UK
  have hb1:(o.st (S.Ab b3 [.slice 4 (Av (DJ none l)) o]) ((DJ none l).length*4)).box b1=some [.slice 4 (Av l) own]:=by rw [AO.Ms,Hr n31,hS1]
  have hlen2:=Mg l none
  have hlo:(DJ none l).length+1≤1000000000:=by omega
  refine As Ac ?_
  have hle1:st.le (o.st (S.Ab b3 [.slice 4 (Av (DJ none l)) o]) ((DJ none l).length*4)):=St.le_trans (hle _) (AO.Bu hgo)
  have hle2:∀(o2:AO) (n:Nat) (C D:List V),o2.Bn (S.Ab b3 C)→st.le ((o2.st (S.Ab b3 C) n).Ab b3 D):=fun o2 n C D h2=>by
   rw [AO.SD,St.set_set];exact St.le_trans (hle _) (AO.Bu (AO.O2 h2))
  have U:∀x:List Tk,Yp l=x→K (.ret (.slice 4 (Av (DJ none l++x)) .any)) st:=fun x e=>by
   have:=h;unfold HG at this;rw [e] at this;exact this
  cases hlast:l.getLast? with
  |none=>
   obtain rfl:l=[]:=List.getLast?_eq_none_iff.1 hlast
   have U:=U [⟨16,[],0,0⟩] rfl
   have hz0:(([]:List Tk).length:Int)=0:=rfl
   repeat' ((conv=>whnf);first|exact Cq|(refine Bc ?_;intros)|(refine Cr ?_ ?_ ?_;rotate_left)|(refine Be ?_ ?_<;>intro _)|refine Ka (fun _=>?_) ?_|refine At hb1 ?_|refine At hb3 ?_|refine KU (x:=⟨16,[],0,0⟩) hgo hlo (fun o2 h2=>?_)|refine At UK ?_|refine At (St.Ah ..) ?_|with_reducible refine WF ?_)
   all_goals conv=>whnf
   all_goals refine ⟨.inr rfl,?_⟩
   all_goals conv=>whnf
   all_goals exact ⟨_,_,.inr rfl,hle2 o2 _ _ _ h2,U⟩
  |some t=>
   have hpos:0<l.length:=List.length_pos_iff.2 (fun e=>by rw [e] at hlast;cases hlast)
   have ht:l[((l.length:Nat) - 1:Int).toNat]? =some t:=by
    rw [List.getLast?_eq_getElem?] at hlast
    rw [←hlast];congr 1;omega
   have hne:¬(l.length:Int)=0:=by omega
   cases ho:Pk t with
   |true=>
    have U:=U [⟨16,[],0,0⟩] (by unfold Yp;rw [hlast];simp [ho])
    repeat' ((conv=>whnf);first|exact Cq|(refine Bc ?_;intros)|(refine Cr ?_ ?_ ?_;rotate_left)|(refine Be ?_ ?_<;>intro _)|refine Ka (fun _=>?_) ?_|refine At hb1 ?_|refine At hb3 ?_|refine Zo (fun st K h=>Pm h) ho ?_|refine KU (x:=⟨16,[],0,0⟩) hgo hlo (fun o2 h2=>?_)|refine At UK ?_|refine At (St.Ah ..) ?_|with_reducible refine WF ?_)
    all_goals conv=>whnf
    all_goals refine ⟨.inr rfl,?_⟩
    all_goals conv=>whnf
    all_goals exact ⟨_,_,.inr rfl,hle2 o2 _ _ _ h2,U⟩
   |false=>
    have U:=U [] (by unfold Yp;rw [hlast];simp [ho])
    rw [List.append_nil] at U
    repeat' ((conv=>whnf);first|exact Cq|(refine Bc ?_;intros)|(refine Cr ?_ ?_ ?_;rotate_left)|(refine Be ?_ ?_<;>intro _)|refine Ka (fun _=>?_) ?_|refine At hb1 ?_|refine At hb3 ?_|refine cv (fun st K h=>Pm h) ho ?_|with_reducible refine WF ?_)
    all_goals conv=>whnf
    all_goals refine ⟨.inr rfl,?_⟩
    all_goals conv=>whnf
    all_goals exact ⟨_,_,.inr rfl,hle1,U⟩
end
def lu (st0 st:St):AO×List Nd→Prop
 |(.any,_)=>False
 |(.full,_)=>True
 |(.tok t,l)=>st0.fresh t∧st.hw t=some (l.length*6)
def Xv:AO×List Nd→AO×List Nd→Prop
 |(.tok t,_),(.tok u,_)=>t≠u
 |_,_=>True
theorem Xv.symm {r q:AO×List Nd} (h:Xv r q):Xv q r:=by
 obtain ⟨o1,U⟩:=r;obtain ⟨o2,l2⟩:=q
 cases o1<;>cases o2<;>first|exact trivial|exact Ne.symm h
structure Rx (st0 st:St) (rows:List (AO×List Nd)):Prop where
 le:st0.le st
 ok:∀r ∈ rows,lu st0 st r
 ap:rows.Pairwise Xv
section
variable {st0 st:St} {r q:AO×List Nd} {rows:List (AO×List Nd)}
theorem Rx.start:Rx st st []:=⟨St.le_refl _,fun r U=>absurd U List.not_mem_nil,List.Pairwise.nil⟩
theorem Rx.drop (h:Rx st0 st (r::rows)):Rx st0 st rows:=⟨h.le,fun q U=>h.ok q (List.mem_cons_of_mem _ U),(List.pairwise_cons.1 h.ap).2⟩
theorem Rx.push (h:Rx st0 st rows) (l:List Nd):Rx st0 st ((.full,l)::rows):=⟨h.le,fun q U=>by
 rcases List.mem_cons.1 U with e|e
 ·subst e;exact trivial
 ·exact h.ok q e,List.pairwise_cons.2 ⟨fun q U=>trivial,h.ap⟩⟩
theorem Rx.swap (h:Rx st0 st (r::q::rows)):Rx st0 st (q::r::rows):=by
 have h1:=List.pairwise_cons.1 h.ap
 have h2:=List.pairwise_cons.1 h1.2
 refine ⟨h.le,fun x U=>h.ok x ?_,List.pairwise_cons.2 ⟨fun x U=>?_,List.pairwise_cons.2 ⟨fun x U=>h1.1 x (List.mem_cons_of_mem _ U),h2.2⟩⟩⟩
 ·simp only [List.mem_cons] at U ⊢
  rcases U with e|e|e
  ·exact .inr (.inl e)
  ·exact .inl e
  ·exact .inr (.inr e)
 ·rcases List.mem_cons.1 U with e|e
  ·subst e;exact (h1.1 q (List.mem_cons_self ..)).symm
  ·exact h2.1 x e
theorem Rx.fresh {t:Nat} (h:Rx st0 st rows) (U:st.fresh t):st0.fresh t:=by
 refine ⟨?_,?_⟩
 ·cases e:st0.box t with
  |none=>rfl
  |some c=>
   have:=h.le.1 t c e
   rw [U.1] at this;cases this
 ·cases e:st0.hw t with
  |none=>rfl
  |some c=>
   have:=h.le.2 t c e
   rw [U.2] at this;cases this
theorem Rx.gr {t:Nat} (h:Rx st0 st rows) (ht:st.fresh t):∀r ∈ rows,r.1≠.tok t:=fun r U e=>by
 have:=h.ok r U
 obtain ⟨o,l⟩:=r
 dsimp only at e
 subst e
 have:=this.2
 rw [ht.2] at this;cases this
theorem Rx.app {own:AO} {l new:List Nd} {K:V→St→Prop} (h:Rx st0 st ((own,l)::rows)) (hb:l.length+new.length≤1000000000)
 (k:∀own' st',st'.box=st.box→Rx st0 st' ((own',l++new)::rows)→K (.slice 6 ((l++new).map A3) own') st'):Ai 6 72 (l.map A3) own (new.map A3) st K:=by
 have hw:(new.map A3).map (·.map V.IU)=new.map A3:=by
  rw [List.map_map]
  exact List.map_congr_left fun x _=>rfl
 have hsc:((new.map A3).all fun v=>v.all V.sc)=true:=by
  rw [List.all_map,List.all_eq_true]
  intro x _;rfl
 have hlen:(l.map A3).length+(new.map A3).length=(l++new).length:=by simp
 have hap:=List.pairwise_cons.1 h.ap
 have mk:∀(t:Nat) (m:St),(∀r ∈ rows,lu st0 m r)→st0.fresh t→st0.le m→(∀r ∈ rows,r.1≠.tok t)→m.hw t=some ((l++new).length*6)→Rx st0 m ((.tok t,l++new)::rows):=by
  intro t m h1 h2 h4 h5 h6
  refine ⟨h4,fun r U=>?_,List.pairwise_cons.2 ⟨fun r U=>?_,hap.2⟩⟩
  ·rcases List.mem_cons.1 U with e|e
   ·subst e;exact ⟨h2,h6⟩
   ·exact h1 r e
  ·obtain ⟨o,q⟩:=r
   cases o with
   |tok u=>exact fun e=>h5 _ U (by subst e;rfl)
   |any=>exact trivial
   |full=>exact trivial
 refine ⟨by rw [hlen,List.length_append];omega,by rw [hlen,List.length_append];unfold De;omega,Ax hsc ?_⟩
 cases own with
 |any=>exact (h.ok _ (List.mem_cons_self ..)).elim
 |full=>
  refine ⟨fun e=>?_,fun _=>.inl fun t ht=>?_⟩
  ·have e:new=[]:=List.map_eq_nil_iff.1 e
   subst e
   have:=k .full st rfl (by rw [List.append_nil];exact h)
   rw [List.append_nil] at this;exact this
  ·rw [hw,hlen,←List.map_append]
   refine k (.tok t) _ rfl (mk t _ (fun r U=>?_) (h.fresh ht) (St.Jn h.le (h.fresh ht).2 _) (h.drop.gr ht) (by simp [St.BC]))
   have h1:=h.ok r (List.mem_cons_of_mem _ U)
   have h2:=h.drop.gr ht r U
   obtain ⟨o,q⟩:=r
   cases o with
   |tok u=>
    have:u≠t:=fun e=>h2 (by subst e;rfl)
    exact ⟨h1.1,by simp only [St.BC];rw [if_neg this];exact h1.2⟩
   |any=>exact h1
   |full=>exact h1
 |tok t0=>
  have h0:=h.ok _ (List.mem_cons_self ..)
  refine ⟨by rw [List.length_map];exact h0.2,fun t ht=>?_⟩
  rw [hw,hlen,←List.map_append]
  have hne:∀r ∈ rows,r.1≠.tok t0:=fun r U e=>by
   have:=hap.1 r U
   obtain ⟨o,q⟩:=r
   dsimp only at e
   subst e
   exact this rfl
  have hst:∀r ∈ rows,r.1≠.tok t:=fun r U=>by
   rcases ht with rfl|ht
   ·exact hne r U
   ·exact h.drop.gr ht r U
  have hf:st0.fresh t:=by
   rcases ht with rfl|ht
   ·exact h0.1
   ·exact h.fresh ht
  refine k (.tok t) _ rfl (mk t _ (fun r U=>?_) hf ⟨h.le.1,fun x n hx=>?_⟩ hst (by simp [St.BC]))
  ·have h1:=h.ok r (List.mem_cons_of_mem _ U)
   have h2:=hst r U
   have h3:=hne r U
   obtain ⟨o,q⟩:=r
   cases o with
   |tok u=>
    have e1:u≠t:=fun e=>h2 (by subst e;rfl)
    have e2:u≠t0:=fun e=>h3 (by subst e;rfl)
    exact ⟨h1.1,by simp only [St.BC,St.DI];rw [if_neg e1,if_neg e2];exact h1.2⟩
   |any=>exact h1
   |full=>exact h1
  ·simp only [St.BC,St.DI]
   split
   ·rename_i e;subst e
    rw [hf.2] at hx;cases hx
   ·split
    ·rename_i e;subst e
     rw [h0.1.2] at hx;cases hx
    ·exact h.le.2 x n hx
theorem Rx.Ab {b:Nat} {cs cs':List V} (h:Rx (st0.Ab b cs) st rows):Rx (st0.Ab b cs') (st.Ab b cs') rows:=by
 refine ⟨⟨fun x c U=>?_,fun x n U=>h.le.2 x n U⟩,fun r hr=>?_,h.ap⟩
 ·by_cases e:x=b
  ·subst e;rw [St.Ah] at U ⊢;exact U
  ·rw [St.Aq (Ne.symm e)] at U ⊢
   exact h.le.1 x c (by rw [St.Aq (Ne.symm e)];exact U)
 ·have:=h.ok r hr
  obtain ⟨o,l⟩:=r
  cases o with
  |any=>exact this
  |full=>exact this
  |tok t=>
   have hb:b≠t:=by
    rintro rfl
    have:=this.1.1
    rw [St.Ah] at this;cases this
   exact ⟨⟨by rw [St.Aq hb];have:=this.1.1;rw [St.Aq hb] at this;exact this,this.1.2⟩,this.2⟩
end
structure Cx (st0:St) (b:Nat) (s:Ae) (st:St) (rows:List (AO×List Nd)):Prop where
 has:Has st b s
 rx:∃cs,Rx (st0.Ab b cs) st rows
 mu:mu s≤100000000
structure Cy (st0:St) (b:Nat) (s:Ae) (st:St) (rows:List (AO×List Nd)):Prop where
 has:Has st b s
 rx:∃cs,Rx (st0.Ab b cs) st rows
section
variable {st0 st st':St} {b:Nat} {s s':Ae} {r q:AO×List Nd} {rows:List (AO×List Nd)}
theorem Cx.y (h:Cx st0 b s st rows):Cy st0 b s st rows:=⟨h.has,h.rx⟩
theorem Cy.drop (h:Cy st0 b s st (r::rows)):Cy st0 b s st rows:=⟨h.has,h.rx.imp fun _ e=>e.drop⟩
theorem Cx.pA (h:Cx st0 b s st rows) (hu:GR st st' b s'):Cy st0 b s' st' rows:=by
 obtain ⟨U,cs,rfl⟩:=hu
 obtain ⟨c0,hr⟩:=h.rx
 exact ⟨U,⟨cs,hr.Ab⟩⟩
theorem Cx.hb (h:Cx st0 b s st rows):s.CG.length≤500000000:=ET h.mu
theorem Cx.start (h:Has st b s) (U:Proofs.YtkidoddkbhchkaaGreatDoor.mu s≤100000000):Cx st b s st []:=
 ⟨h,by
   rcases h with e|⟨_,_,_,_,_,e⟩
   all_goals exact ⟨_,by rw [St.LJ e];exact Rx.start⟩,U⟩
theorem Cx.drop (h:Cx st0 b s st (r::rows)):Cx st0 b s st rows:=⟨h.has,h.rx.imp fun _ e=>e.drop,h.mu⟩
theorem Cx.push (h:Cx st0 b s st rows) (l:List Nd):Cx st0 b s st ((.full,l)::rows):=⟨h.has,h.rx.imp fun _ e=>e.push l,h.mu⟩
theorem Cx.swap (h:Cx st0 b s st (r::q::rows)):Cx st0 b s st (q::r::rows):=⟨h.has,h.rx.imp fun _ e=>e.swap,h.mu⟩
theorem Cx.set (h:Cx st0 b s st rows) (hu:GR st st' b s') (hm:Proofs.YtkidoddkbhchkaaGreatDoor.mu s'≤100000000):Cx st0 b s' st' rows:=by
 obtain ⟨U,cs,rfl⟩:=hu
 obtain ⟨c0,hr⟩:=h.rx
 exact ⟨U,⟨cs,hr.Ab⟩,hm⟩
theorem Cx.PZ (h:Cx st0 b s st rows) (hu:GR st st' b s') (U:Proofs.YtkidoddkbhchkaaGreatDoor.mu s'≤Proofs.YtkidoddkbhchkaaGreatDoor.mu s):Cx st0 b s' st' rows:=h.set hu (Nat.le_trans U h.mu)
theorem Cx.look (h:Cx st0 b s st rows):Cx st0 b s (st.Ab b (CK s)) rows:=h.PZ AU (Nat.le_refl _)
theorem Cx.VM {t:Nat} (h:Cx st0 b s st rows) (U:st.fresh t):st0.box t=none∧t≠b:=by
 obtain ⟨c0,hr⟩:=h.rx
 have hb:t≠b:=by
  rintro rfl
  rcases h.has with e|⟨_,_,_,_,_,e⟩<;>(rw [U.1] at e;cases e)
 have:=(hr.fresh U).1
 rw [St.Aq hb.symm] at this
 exact ⟨this,hb⟩
theorem Cx.nD {c:Nat} {z cs:List V} (h:Cx st0 b s st rows) (hf:st.fresh c):Cx (st0.Ab c cs) b s ((st.Ab c z).Ab c cs) rows:=by
 have hb:=(h.VM hf).2
 rw [St.set_set]
 obtain ⟨c0,hr⟩:=h.rx
 refine ⟨?_,⟨c0,⟨fun x v U=>?_,fun x n U=>hr.le.2 x n U⟩,fun r hr'=>?_,hr.ap⟩,h.mu⟩
 ·rcases h.has with e|⟨q1,q2,q3,q4,q5,e⟩
  ·exact .inl (by rw [St.Aq hb];exact e)
  ·exact .inr ⟨q1,q2,q3,q4,q5,by rw [St.Aq hb];exact e⟩
 ·by_cases e:x=c
  ·subst e
   rw [St.Aq hb.symm,St.Ah] at U
   rw [St.Ah];exact U
  ·rw [St.Aq (Ne.symm e)]
   by_cases e2:x=b
   ·subst e2
    rw [St.Ah] at U
    exact hr.le.1 x v (by rw [St.Ah];exact U)
   ·rw [St.Aq (Ne.symm e2),St.Aq (Ne.symm e)] at U
    exact hr.le.1 x v (by rw [St.Aq (Ne.symm e2)];exact U)
 ·have hk:=hr.ok r hr'
  obtain ⟨o,l⟩:=r
  cases o with
  |any=>exact hk
  |full=>exact hk
  |tok t=>
   have htc:t≠c:=by
    rintro rfl
    have:=hk.2
    rw [hf.2] at this;cases this
   have h1:=hk.1.1
   have htb:t≠b:=by
    rintro rfl
    rw [St.Ah] at h1;cases h1
   rw [St.Aq htb.symm] at h1
   exact ⟨⟨by rw [St.Aq htb.symm,St.Aq htc.symm];exact h1,hk.1.2⟩,hk.2⟩
theorem Cx.YH {c:Nat} {cs:List V} (h:Cx st0 b s st rows) (U:st.fresh c):Cx (st0.Ab c cs) b s (st.Ab c cs) rows:=by
 have:=h.nD (z:=cs) (cs:=cs) U
 rw [St.set_set] at this;exact this
theorem Rx.unbox {c:Nat} {cs:List V} (h:Rx (st0.Ab c cs) st rows) (hf:st0.box c=none):Rx st0 st rows:=by
 refine ⟨⟨fun x v hx=>?_,h.le.2⟩,fun r hr=>?_,h.ap⟩
 ·have:x≠c:=by rintro rfl;rw [hf] at hx;cases hx
  exact h.le.1 x v (by rw [St.Aq this.symm];exact hx)
 ·have U:=h.ok r hr
  obtain ⟨o,l⟩:=r
  cases o with
  |any=>exact U
  |full=>exact U
  |tok t=>
   have h1:=U.1.1
   have:t≠c:=by rintro rfl;rw [St.Ah] at h1;cases h1
   rw [St.Aq this.symm] at h1
   exact ⟨⟨h1,U.1.2⟩,U.2⟩
theorem UP {c:Nat} {cs cs':List V} (h:c≠b):(st0.Ab c cs).Ab b cs'=(st0.Ab b cs').Ab c cs:=by
 simp only [St.Ab,St.mk.injEq,and_true]
 funext x
 by_cases e:x=b
 ·subst e;rw [if_pos rfl,if_neg (Ne.symm h),if_pos rfl]
 ·rw [if_neg e]
  split
  ·rfl
  ·rfl
theorem Cx.unbox {c:Nat} {cs:List V} (h:Cx (st0.Ab c cs) b s st rows) (U:st0.box c=none∧c≠b):Cx st0 b s st rows:=
 ⟨h.has,h.rx.imp fun c0 hr=>by rw [UP U.2] at hr;exact hr.unbox (by rw [St.Aq U.2.symm];exact U.1),h.mu⟩
theorem Cy.unbox {c:Nat} {cs:List V} (h:Cy (st0.Ab c cs) b s st rows) (U:st0.box c=none∧c≠b):Cy st0 b s st rows:=
 ⟨h.has,h.rx.imp fun c0 hr=>by rw [UP U.2] at hr;exact hr.unbox (by rw [St.Aq U.2.symm];exact U.1)⟩
theorem Has.eq (h:Has st b s) (e:st'.box=st.box):Has st' b s:=by unfold Has at h ⊢;rw [e];exact h
theorem Cx.app {own:AO} {l new:List Nd} {K:V→St→Prop} (h:Cx st0 b s st ((own,l)::rows)) (hb:l.length+new.length≤1000000000)
 (k:∀U st',Cx st0 b s st' ((U,l++new)::rows)→K (.slice 6 ((l++new).map A3) U) st'):Ai 6 72 (l.map A3) own (new.map A3) st K:=by
 obtain ⟨c0,hr⟩:=h.rx
 exact hr.app hb fun U st' e hr'=>k U st' ⟨h.has.eq e,⟨c0,hr'⟩,h.mu⟩
theorem Cx.KT {own:AO} {l:List Nd} {x:Nd} {K:V→St→Prop} (h:Cx st0 b s st ((own,l)::rows)) (hb:l.length+1≤1000000000)
 (k:∀U st',Cx st0 b s st' ((U,l++[x])::rows)→K (.slice 6 ((l++[x]).map A3) U) st'):Ai 6 72 (l.map A3) own [A3 x] st K:=h.app (new:=[x]) hb k
theorem Cx.pd {own:AO} {l:List Nd} {x y:Nd} {K:V→St→Prop} (h:Cx st0 b s st ((own,l)::rows)) (hb:l.length+2≤1000000000)
 (k:∀U st',Cx st0 b s st' ((U,l++[x,y])::rows)→K (.slice 6 ((l++[x,y]).map A3) U) st'):Ai 6 72 (l.map A3) own [A3 x,A3 y] st K:=h.app (new:=[x,y]) hb k
theorem Rx.KT {own:AO} {l:List Nd} {x:Nd} {K:V→St→Prop} (h:Rx st0 st ((own,l)::rows)) (hb:l.length+1≤1000000000)
 (k:∀U st',Rx st0 st' ((U,l++[x])::rows)→K (.slice 6 ((l++[x]).map A3) U) st'):Ai 6 72 (l.map A3) own [A3 x] st K:=h.app (new:=[x]) hb fun U st' _ c=>k U st' c
end
structure Bh {α:Type} (en:α→V) (f:FuncId) (mk:Nat→List V) (A:Rd α):Prop where
 ap:∀{st0:St} {b:Nat} {s:Ae} {st:St} {rows:List (AO×List Nd)} {K:AM→St→Prop},Cx st0 b s st rows→
 Rd.wp A s (fun v s'=>∀st',Cx st0 b s' st' rows→K (.ret (en v)) st') (fun e s'=>∀st',Cy st0 b s' st' rows→K (.Cg (fault e.1)) st')→PC f (mk b) st K
theorem Bh.go {α:Type} {U:α→V} {f:FuncId} {mk:Nat→List V} {A:Rd α} {st0:St} {b:Nat} {s:Ae} {st:St} {rows:List (AO×List Nd)} {K:AM→St→Prop} {Q:α→Ae→Prop} {E:Er→Ae→Prop} (hf:Bh U f mk A) (hc:Cx st0 b s st rows) (h:Rd.wp A s Q E)
 (k:∀v s' st',A.run s=.inr (v,s')→mu s'≤mu s→Cx st0 b s' st' rows→Q v s'→K (.ret (U v)) st') (kb:∀e s' st',Cy st0 b s' st' rows→E e s'→K (.Cg (fault e.1)) st'):PC f (mk b) st K:=
 hf.ap hc (Rd.wp_mono h (fun v s' r q st' c=>k v s' st' r (A.le _ _ _ r) c q) (fun e s' _ q st' c=>kb e s' st' c q))
theorem Bh.mM {α:Type} {U:α→V} {f:FuncId} {mk:Nat→List V} {A:Rd α} {st0:St} {b:Nat} {s:Ae} {st:St} {rows:List (AO×List Nd)} {K:AM→St→Prop} {Q:α→Ae→Prop} {E:Er→Ae→Prop} (hf:Bh U f mk A) (hF:Rd.A6 A) (hc:Cx st0 b s st rows) (h:Rd.wp A s Q E)
 (k:∀v s' st',A.run s=.inr (v,s')→mu s'<mu s→Cx st0 b s' st' rows→Q v s'→K (.ret (U v)) st') (kb:∀e s' st',Cy st0 b s' st' rows→E e s'→K (.Cg (fault e.1)) st'):PC f (mk b) st K:=
 hf.go hc h (fun v s' st' r m c q=>k v s' st' r (hF _ _ _ r) c q) kb
structure n7 {α:Type} (en:α→AO→V) (ls:α→List Nd) (f:FuncId) (mk:Nat→List V) (A:Rd α):Prop where
 ap:∀{st0:St} {b:Nat} {s:Ae} {st:St} {rows:List (AO×List Nd)} {K:AM→St→Prop},Cx st0 b s st rows→
 Rd.wp A s (fun v s'=>∀own st',Cx st0 b s' st' ((own,ls v)::rows)→K (.ret (en v own)) st') (fun e s'=>∀st',Cy st0 b s' st' rows→K (.Cg (fault e.1)) st')→PC f (mk b) st K
theorem n7.go {α:Type} {U:α→AO→V} {ls:α→List Nd} {f:FuncId} {mk:Nat→List V} {A:Rd α} {st0:St} {b:Nat} {s:Ae} {st:St} {rows:List (AO×List Nd)} {K:AM→St→Prop} {Q:α→Ae→Prop} {E:Er→Ae→Prop} (hf:n7 U ls f mk A) (hc:Cx st0 b s st rows) (h:Rd.wp A s Q E)
 (k:∀v own s' st',A.run s=.inr (v,s')→mu s'≤mu s→Cx st0 b s' st' ((own,ls v)::rows)→Q v s'→K (.ret (U v own)) st') (kb:∀e s' st',Cy st0 b s' st' rows→E e s'→K (.Cg (fault e.1)) st'):PC f (mk b) st K:=
 hf.ap hc (Rd.wp_mono h (fun v s' r q own st' c=>k v own s' st' r (A.le _ _ _ r) c q) (fun e s' _ q st' c=>kb e s' st' c q))
structure lr (f:FuncId) (mk:Nat→V→List V) (A:List Nd→Rd (List Nd)):Prop where
 ap:∀{st0:St} {b:Nat} {s:Ae} {st:St} {rows:List (AO×List Nd)} {K:AM→St→Prop} {own:AO} {l:List Nd},l.length≤90000000→Cx st0 b s st ((own,l)::rows)→
 Rd.wp (A l) s (fun l' s'=>∀own' st',Cx st0 b s' st' ((own',l')::rows)→K (.ret (.slice 6 (l'.map A3) own')) st') (fun e s'=>∀st',Cy st0 b s' st' rows→K (.Cg (fault e.1)) st')→PC f (mk b (.slice 6 (l.map A3) own)) st K
theorem lr.go {f:FuncId} {mk:Nat→V→List V} {A:List Nd→Rd (List Nd)} {st0:St} {b:Nat} {s:Ae} {st:St} {rows:List (AO×List Nd)} {K:AM→St→Prop} {Q:List Nd→Ae→Prop} {E:Er→Ae→Prop} {own:AO} {l:List Nd} (hf:lr f mk A) (hl:l.length≤90000000) (hc:Cx st0 b s st ((own,l)::rows)) (h:Rd.wp (A l) s Q E)
 (k:∀l' U s' st',(A l).run s=.inr (l',s')→mu s'≤mu s→Cx st0 b s' st' ((U,l')::rows)→Q l' s'→K (.ret (.slice 6 (l'.map A3) U)) st') (kb:∀e s' st',Cy st0 b s' st' rows→E e s'→K (.Cg (fault e.1)) st'):PC f (mk b (.slice 6 (l.map A3) own)) st K:=
 hf.ap hl hc (Rd.wp_mono h (fun v s' r q own st' c=>k v own s' st' r ((A l).le _ _ _ r) c q) (fun e s' _ q st' c=>kb e s' st' c q))
theorem Eu {st0:St} {b:Nat} {s:Ae} {st:St} {rows:List (AO×List Nd)} {K:AM→St→Prop} {r r':AM} (hc:Cx st0 b s st rows) (h:∀st',Cx st0 b s st' rows→K r st') (e:r=r'.wk):∃r2 U,(r2=r'∨r2=r'.wk)∧St.le U st∧K r2 U:=⟨r,st,.inr e,St.le_refl _,h st hc⟩
theorem C4 {st0:St} {b:Nat} {s:Ae} {st:St} {rows:List (AO×List Nd)} {K:AM→St→Prop} {e:Int} (hc:Cy st0 b s st rows) (h:∀st',Cy st0 b s st' rows→K (.Cg (fault e)) st'):∃r2 U,(r2=.Cg (fault e)∨r2=(AM.Cg (fault e)).wk)∧St.le U st∧K r2 U:=⟨_,st,.inl rfl,St.le_refl _,h st hc⟩
theorem S6 {c:Bool} {P Q p q:Prop} (h:if c=true then P else Q) (U:c=true→P→p) (k2:c=false→Q→q):A8 c p q:=Wk (fun e=>U e (by rw [if_pos e] at h;exact h)) (fun e=>k2 e (by rw [if_neg (by rw [e];decide)] at h;exact h))
theorem Zh {α:Type} [BEq α] [LawfulBEq α] {a b:α} {P Q p q:Prop} (h:if (a==b)=true then P else Q) (U:a=b→P→p) (k2:¬a=b→Q→q):A8 (a==b) p q:=
 Wg (fun e=>U e (by rw [if_pos (beq_iff_eq.2 e)] at h;exact h)) (fun e=>k2 e (by rw [if_neg (fun x=>e (beq_iff_eq.1 x))] at h;exact h))
theorem Zg {c:Prop} [Decidable c] {P Q p q:Prop} (h:if c then P else Q) (U:c→P→p) (k2:¬c→Q→q):A8 (decide c) p q:=
 Wh (fun e=>U e (by rw [if_pos e] at h;exact h)) (fun e=>k2 e (by rw [if_neg e] at h;exact h))
theorem mh {b:Bool} {p q:Prop} (h:b=true) (k:p):A8 b p q:=Wk (fun _=>k) (fun e=>by rw [h] at e;cases e)
theorem cn {b:Bool} {p q:Prop} (h:b=false) (k:q):A8 b p q:=Wk (fun e=>by rw [h] at e;cases e) (fun _=>k)
structure LS (σ:Type) where
 x:σ
 s:Ae
 m:St
 o:AO
theorem CM {σ β:Type} {ih:(AP→Env→St→Prop)→Env→St→Prop} {Q0:AP→Env→St→Prop} {env:Env} {st0 st:St} {b:Nat} {s:Ae} {Q:β→Ae→Prop} {E:Er→Ae→Prop} {body:σ→Rd (Sum σ β)} {x0:σ}
 (f:σ→AO→List (Nat×V)) (g:σ→AO→List (Nat×List V)) (keep kb:List Nat) (rw:σ→AO→List (AO×List Nd)) (wt:σ→Nat) (U:AO) (hc:Cx st0 b s st (rw x0 U)) (h:Rd.wp (Rd.loop body x0) s Q E) (hl:wt x0+4*mu s≤500000000)
 (he:(env.Qu (f x0 U) (g x0 U) keep kb).Fq env)
 (hb:∀x s1 st1 own1,Cx st0 b s1 st1 (rw x own1)→Rd.wp (body x) s1 (Rd.again body s1 Q E) E→wt x+4*mu s1≤500000000→mu s1≤mu s→
   ih (B0 (fun env' st'=>∃y:LS σ,(Cx st0 b y.s y.m (rw y.x y.o)∧Rd.wp (Rd.loop body y.x) y.s Q E∧wt y.x+4*mu y.s≤500000000∧mu y.s≤mu s)∧mu y.s<mu s1∧(env.Qu (f y.x y.o) (g y.x y.o) keep kb).Fq env'∧St.le y.m st') Q0)
    (env.Qu (f x own1) (g x own1) keep kb) st1):
 ∃(α:Type) (E:α→Env) (S:α→St) (J:α→Prop) (μ:α→Nat) (x0:α),J x0∧(E x0).Fq env∧St.le (S x0) st∧
  ∀x,J x→ih (B0 (fun env' st'=>∃y,J y∧μ y<μ x∧(E y).Fq env'∧St.le (S y) st') Q0) (E x) (S x):=
 ⟨LS σ,fun y=>env.Qu (f y.x y.o) (g y.x y.o) keep kb,fun y=>y.m,
   fun y=>Cx st0 b y.s y.m (rw y.x y.o)∧Rd.wp (Rd.loop body y.x) y.s Q E∧wt y.x+4*mu y.s≤500000000∧mu y.s≤mu s,fun y=>mu y.s,⟨x0,s,st,U⟩,⟨hc,h,hl,Nat.le_refl _⟩,he,St.le_refl _,
   fun y ⟨j1,j2,j3,j4⟩=>hb y.x y.s y.m y.o j1 (by rw [←Rd.wp_loop];exact j2) j3 j4⟩
section
variable {st0 st:St} {b:Nat} {s:Ae} {rows:List (AO×List Nd)} {K:AM→St→Prop}
theorem Sn (hc:Cx st0 b s st rows) (k:∀st',Cx st0 b s st' rows→K (.ret (FV (Ad s).1)) st'):PC 135 [.ptr b 0] st K:=Ga hc.has hc.hb (k _ hc.look)
theorem mR {k:Int} {x:List UInt8} (hc:Cx st0 b s st rows) (U:∀st',Cx st0 b s st' rows→K (.ret (.bool (Ba s k x))) st'):PC 98 [.ptr b 0,.int .i64 k,.str x] st K:=VS hc.has hc.hb (U _ hc.look)
theorem ei {k:Int} {x:List UInt8} (hc:Cx st0 b s st rows) (e:Ba s k x=true) (U:∀st',Cx st0 b s st' rows→K (.ret (.bool true)) st'):PC 98 [.ptr b 0,.int .i64 k,.str x] st K:=mR hc (by rw [e];exact U)
theorem lG {k:Int} {x:List UInt8} (hc:Cx st0 b s st rows) (e:Ba s k x=false) (U:∀st',Cx st0 b s st' rows→K (.ret (.bool false)) st'):PC 98 [.ptr b 0,.int .i64 k,.str x] st K:=mR hc (by rw [e];exact U)
theorem oE {k:Int} {x:List UInt8} {P Q:Prop} (hc:Cx st0 b s st rows) (h:if Ba s k x=true then P else Q) (U:∀st',Cx st0 b s st' rows→Ba s k x=true→P→K (.ret (.bool true)) st') (k2:∀st',Cx st0 b s st' rows→Ba s k x=false→Q→K (.ret (.bool false)) st'):
 PC 98 [.ptr b 0,.int .i64 k,.str x] st K:=by
 cases e:Ba s k x with
 |true=>exact ei hc e fun st' c=>U st' c e (by rw [if_pos e] at h;exact h)
 |false=>exact lG hc e fun st' c=>k2 st' c e (by rw [if_neg (by rw [e];decide)] at h;exact h)
theorem IF:Bh enc 100 (fun b=>[.ptr b 0]) A7:=by
 refine ⟨fun {st0 b s st rows K} hc h=>?_⟩
 refine Mt hc.has hc.hb (fun e st' U=>?_) (fun e=>?_)
 ·unfold Rd.wp at h;rw [Cu e] at h;exact h st' (hc.PZ U (EI e).1)
 ·unfold Rd.wp at h;rw [LM e] at h;exact h _ hc.look.y
theorem N1 {k:Int} {x:List UInt8} {Q:Nd→Ae→Prop} {E:Er→Ae→Prop} (hc:Cx st0 b s st rows) (h:Rd.wp A7 s Q E) (e:Ba s k x=true) (hk:k≠0∧k≠21) (kk:∀s' st',(Ad s).2.1=s'→mu s'<mu s→Cx st0 b s' st' rows→Q (AJ (Ad s).1) s'→K (.ret (enc (AJ (Ad s).1))) st'):
 PC 100 [.ptr b 0] st K:=by
 unfold Rd.wp at h
 rw [gy e hk.1] at h
 have U:=CJ e hk.1 hk.2
 exact Mt hc.has hc.hb (fun _ st' hu=>kk _ st' rfl U (hc.PZ hu (Nat.le_of_lt U)) h) (fun n=>absurd (GC e hk.1) n)
theorem N2 {Q:Nd→Ae→Prop} {E:Er→Ae→Prop} (hc:Cx st0 b s st rows) (h:Rd.wp A7 s Q E) (hk:(Ad s).1.kind≠0∧(Ad s).1.kind≠21) (kk:∀s' st',(Ad s).2.1=s'→mu s'<mu s→Cx st0 b s' st' rows→Q (AJ (Ad s).1) s'→K (.ret (enc (AJ (Ad s).1))) st'):
 PC 100 [.ptr b 0] st K:=by
 have e:=Ds hk.1
 unfold Rd.wp at h
 rw [Cu e] at h
 have U:=(EI e).2 hk.2
 exact Mt hc.has hc.hb (fun _ st' hu=>kk _ st' rfl U (hc.PZ hu (Nat.le_of_lt U)) h) (fun n=>absurd e n)
theorem S2 {α:Type} {Q:α→Ae→Prop} {E:Er→Ae→Prop} (hc:Cx st0 b s st rows) (h:Rd.wp (P2:Rd α) s Q E) (U:∀e s' st',Cy st0 b s' st' rows→E e s'→K (.Cg (fault e.1)) st'):PC 191 [.ptr b 0] st K:=
 cj hc.has hc.hb (U _ _ _ hc.look.y h)
theorem Y2 {k:Int} {x:List UInt8}:Bh enc 167 (fun b=>[.ptr b 0,.int .i64 k,.str x]) (Cd k x):=by
 refine ⟨fun {st0 b s st rows K} hc h=>?_⟩
 unfold Cd at h
 rw [Rd.Ao,Rd.AV] at h
 refine gK hc.has hc.hb (fun U e2 st' hu=>?_) (fun U e2=>?_) (fun U=>?_)
 ·rw [if_pos U] at h
  unfold Rd.wp at h;rw [Cu e2] at h;exact h st' (hc.PZ hu (EI e2).1)
 ·rw [if_pos U] at h
  unfold Rd.wp at h;rw [LM e2] at h;exact h _ hc.look.y
 ·rw [if_neg (by rw [U];decide)] at h
  exact h _ hc.look.y
theorem oA {s':Ae} (hc:Cx st0 b s st rows) (U:mu s'≤100000000) (k:∀st',Cx st0 b s' st' rows→K (.ret (.Bo [])) st'):PC 234 [.ptr b 0,CN s'] st K:=jF hc.has fun st' hu=>k st' (hc.set hu U)
theorem J4 {Q:Unit→Ae→Prop} {E:Er→Ae→Prop} (hc:Cx st0 b s st rows) (h:Rd.wp HR s Q E) (hk:(Ad s).1.kind≠0∧(Ad s).1.kind≠21) (kk:∀s' st',(Ad s).2.1=s'→mu s'<mu s→Cx st0 b s' st' rows→Q () s'→K (.ret (FV (Ad s).1)) st'):
 PC 161 [.ptr b 0] st K:=by
 have e:=Ds hk.1
 unfold HR at h
 rw [Rd.wp_seq] at h
 unfold Rd.wp at h
 rw [Cu e] at h
 have U:=(EI e).2 hk.2
 exact Xb hc.has hc.hb (fun _ st' hu=>kk _ st' rfl U (hc.PZ hu (Nat.le_of_lt U)) h) (fun n=>absurd e n)
theorem YV {k:Int} {x:List UInt8} {Q:Unit→Ae→Prop} {E:Er→Ae→Prop} {P:Prop} (hc:Cx st0 b s st rows) (h:if Ba (Ad s).2.1 k x=true then Rd.wp HR s Q E else P) (hk:(Ad s).1.kind≠0∧(Ad s).1.kind≠21)
 (kk:∀s' st',mu s'<mu s→Cx st0 b s' st' rows→(if Ba s' k x=true then Q () s' else P)→K (.ret (FV (Ad s).1)) st'):PC 161 [.ptr b 0] st K:=by
 have e:=Ds hk.1
 have U:=(EI e).2 hk.2
 refine Xb hc.has hc.hb (fun _ st' hu=>kk _ st' U (hc.PZ hu (Nat.le_of_lt U)) ?_) (fun n=>absurd e n)
 split
 ·rename_i hi
  rw [if_pos hi] at h
  unfold HR at h
  rw [Rd.wp_seq] at h
  unfold Rd.wp at h
  rw [Cu e] at h
  exact h
 ·rename_i hi
  rw [if_neg hi] at h;exact h
theorem Lg {s0:Ae} (hc:Cx st0 b s st rows) (U:mu s0≤100000000) (k:∀st',Cx st0 b s0 st' rows→K (.ret (.Bo [])) st'):PC 234 [.ptr b 0,.agg s0.cells] st K:=oA hc U k
theorem nQ (hc:Cx st0 b s st rows) (hk:(Ad s).1.kind≠0∧(Ad s).1.kind≠21) (kk:∀s' st',(Ad s).2.1=s'→mu s'<mu s→Cx st0 b s' st' rows→K (.ret (enc (AJ (Ad s).1))) st'):PC 100 [.ptr b 0] st K:=by
 have e:=Ds hk.1
 have U:=(EI e).2 hk.2
 exact Mt hc.has hc.hb (fun _ st' hu=>kk _ st' rfl U (hc.PZ hu (Nat.le_of_lt U))) (fun n=>absurd e n)
end
theorem FR {P:Prop} (h:P:=by with_reducible first|(show _∧_;first|exact Wa)|(show A8 _ _ _;first|exact Wb|exact Wc)|fail):P:=h
theorem BQ {P A:Prop} (k:A) (h:A→P:=by intro k;with_reducible first|(show _∧_;first|exact Wd (by kernel_rfl) k|exact Wm (by assumption) (by omega) k|exact Wn (by omega) (by omega) k|exact Wo (by omega) (by omega) k|exact Wp (by omega) (by omega) (by omega) k|exact Wr (by decide) (by omega) (by omega) k|exact Ws (by decide) k|exact WB (by assumption) (by omega) k|exact WC (by omega) (by omega) k|exact WD (by omega) (by omega) k|exact WE (by omega) (by omega) (by omega) k)|(show A8 _ _ _;first|exact Wt (by first|assumption|omega) k|exact Wu (by first|assumption|omega) k|exact Wv (by omega) k|exact Ww (by omega) k|exact mh (by assumption) k|exact cn (by assumption) k|exact Wi k|exact Wj k)|(intro x y z;exact Wl k x y z)|(intro x y z;exact Wz k x y z)|(intro x y z;exact WA k x y z)|(show Exists _;first|exact Wq (by omega) (by omega) k)|fail):P:=h k
theorem FT {P:Prop} {B C:V→Prop} (k:V) (l:B k) (m:C k) (h:∀k,B k→C k→P:=by intro k l m;with_reducible first|(show Exists _;first|exact We k l m|exact W8 (by decide +kernel) k l m|exact W0 (by decide +kernel) k l m|exact W9 k l m)|fail):P:=h k l m
theorem BR {P A B:Prop} (k:A) (l:B) (h:A→B→P:=by intro k l;with_reducible first|(show A8 _ _ _;first|exact Zh h k l|exact Zg h k l|exact S6 h k l)|fail):P:=h k l
theorem BS {P A B:Prop} (k:A) (l:B) (h:A→B→P:=by intro k l;with_reducible first|(show A8 _ _ _;first|exact Wf (by decide) k l|exact Wg k l|exact Wh k l|exact Wk k l)|fail):P:=h k l
theorem Y5 {P A B:Prop} (k:A) (l:B) (h:A→B→P:=by intro k l;with_reducible first|(intro x y;exact Wx k l x y)|(intro x y;exact Wy k l x y)|fail):P:=h k l
theorem Al {p:Env→Prop} (h:∀e,p e):∀e:Env,p e:=h
theorem me {es:List (List V)} {i:Int} {e:List V} {K:List V→Prop} (U:0≤i) (h:es[i.toNat]? =some e) (k:K e):0≤i∧∃e,es[i.toNat]? =some e∧K e:=⟨U,e,h,k⟩
theorem ee {l:List Int} {i:Int} {x:Int} {K:List V→Prop} (h:l[i.toNat]? =some x) (U:0≤i) (k:K [.int .i64 x]):0≤i∧∃e,(ints l)[i.toNat]? =some e∧K e:=⟨U,_,by simp [ints,h],k⟩
theorem mV {α:Type} {es:List α} {n:Nat} {K:Nat→Prop} (h:es.length=n) (k:K n):∀m,m=es.length→m<De→K m:=fun m U _=>by rw [h] at U;subst U;exact k
section
variable {st:St} {K:AM→St→Prop}
theorem HT {t:Tk} (h:K (.ret (.bool (IE t))) st):PC 249 [FV t] st K:=by
 refine Aa Ac [] Tryz.func249 rfl (by decide) ?_
 repeat' ((conv=>whnf);first|(refine BQ ?_;intros)|(refine BR ?_ ?_<;>intro e h)|(refine BS ?_ ?_<;>intro _)|fail)
 all_goals conv=>whnf
 all_goals (refine AB h ?_;clear h;simp_all [IE])
theorem jK {t:Tk} (h:K (.ret (.bool (EN t))) st):PC 241 [FV t] st K:=by
 refine Aa Ac [] Tryz.func241 rfl (by decide) ?_
 repeat' ((conv=>whnf);first|(refine BQ ?_;intros)|(refine BR ?_ ?_<;>intro e h)|(refine BS ?_ ?_<;>intro _)|refine HT ?_)
 all_goals conv=>whnf
 all_goals (refine AB h ?_;clear h;simp_all [EN])
theorem S1 {t:Tk} (h:K (.ret (.bool (B3 t))) st):PC 170 [FV t] st K:=by
 refine Aa Ac [] Tryz.func170 rfl (by decide) ?_
 repeat' ((conv=>whnf);first|(refine BQ ?_;intros)|(refine BR ?_ ?_<;>intro e h)|(refine BS ?_ ?_<;>intro _)|fail)
 all_goals conv=>whnf
 all_goals (refine AB h ?_;clear h;simp_all [B3])
theorem Oj {t:Tk} (h:K (.ret (.bool (BO t))) st):PC 110 [FV t] st K:=by
 refine Aa Ac [] Tryz.func110 rfl (by decide) ?_
 repeat' ((conv=>whnf);first|(refine BQ ?_;intros)|(refine BR ?_ ?_<;>intro e h)|(refine BS ?_ ?_<;>intro _)|refine S1 ?_)
 all_goals conv=>whnf
 all_goals (refine AB h ?_;clear h;simp_all [BO,B3,bC,oZ,UT,oX])
theorem X8 {t:Tk} (h:K (.ret (.bool (Ic t))) st):PC 111 [FV t] st K:=by
 refine Aa Ac [] Tryz.func111 rfl (by decide) ?_
 repeat' ((conv=>whnf);first|(refine BQ ?_;intros)|(refine BR ?_ ?_<;>intro e h)|(refine BS ?_ ?_<;>intro _)|fail)
 all_goals conv=>whnf
 all_goals (refine AB h ?_;clear h;simp_all [Ic])
theorem Sw {t:Tk} (h:K (.ret (.bool (Jz t))) st):PC 168 [FV t] st K:=by
 refine Aa Ac [] Tryz.func168 rfl (by decide) ?_
 repeat' ((conv=>whnf);first|(refine BQ ?_;intros)|(refine BR ?_ ?_<;>intro e h)|(refine BS ?_ ?_<;>intro _)|fail)
 all_goals conv=>whnf
 all_goals (refine AB h ?_;clear h;simp_all [Jz])
theorem Jq {k:Int} {l:List Nd} {own:AO} (h:K (.ret (enc (AD k l))) st):PC 121 [.int .i64 k,.slice 6 (l.map A3) own] st K:=by
 refine Aa Ac [] Tryz.func121 rfl (by decide) ?_
 repeat' ((conv=>whnf);first|(refine BQ ?_;intros)|(refine BR ?_ ?_<;>intro e h)|(refine BS ?_ ?_<;>intro _)|fail)
 all_goals exact Ej (St.le_refl _) CI h
theorem Ys {k:Int} {a:Nd} {own:AO} (h:K (.ret (enc (AD k [a]))) st):PC 121 [.int .i64 k,.slice 6 [A3 a] own] st K:=Jq (l:=[a]) h
theorem Yt {k:Int} {a b:Nd} {own:AO} (h:K (.ret (enc (AD k [a,b]))) st):PC 121 [.int .i64 k,.slice 6 [A3 a,A3 b] own] st K:=Jq (l:=[a,b]) h
theorem Sc {k:Int} {a b c:Nd} {own:AO} (h:K (.ret (enc (AD k [a,b,c]))) st):PC 121 [.int .i64 k,.slice 6 [A3 a,A3 b,A3 c] own] st K:=Jq (l:=[a,b,c]) h
theorem Yu {k:Int} {a b c d:Nd} {own:AO} (h:K (.ret (enc (AD k [a,b,c,d]))) st):PC 121 [.int .i64 k,.slice 6 [A3 a,A3 b,A3 c,A3 d] own] st K:=Jq (l:=[a,b,c,d]) h
theorem mF {k:Int} {l:List Nd} {own:AO} (h:K (.ret (enc (Qh k l))) st):PC 190 [.int .i64 k,.slice 6 (l.map A3) own] st K:=by
 refine Aa Ac [] Tryz.func190 rfl (by decide) ?_
 match l with
 |[x]=>
  have h:K (.ret (enc x)) st:=h
  have U:(([x]:List Nd).length:Int)=1:=rfl
  repeat' ((conv=>whnf);first|(refine BQ ?_;intros)|(refine BR ?_ ?_<;>intro e h)|(refine BS ?_ ?_<;>intro _)|refine Ew (l:=[x]) (fun _=>?_)|refine me (by omega) rfl ?_)
  all_goals exact B8 rfl h
 |[]=>
  have h:K (.ret (enc (AD k []))) st:=h
  have U:¬(([]:List Nd).length:Int)=1:=by decide
  repeat' ((conv=>whnf);first|(refine BQ ?_;intros)|(refine BR ?_ ?_<;>intro e h)|(refine BS ?_ ?_<;>intro _)|refine Ew (l:=[]) (fun _=>?_)|refine Jq (l:=[]) ?_)
  all_goals exact B8 rfl h
 |x::y::r=>
  have h:K (.ret (enc (AD k (x::y::r)))) st:=h
  have U:¬((x::y::r).length:Int)=1:=by simp only [List.length_cons];omega
  repeat' ((conv=>whnf);first|(refine BQ ?_;intros)|(refine BR ?_ ?_<;>intro e h)|(refine BS ?_ ?_<;>intro _)|refine Ew (l:=x::y::r) (fun _=>?_)|refine Jq (l:=x::y::r) ?_)
  all_goals exact B8 rfl h
theorem RO {n:Nd} (h:K (.ret (.bool (Kn n))) st):PC 124 [enc n] st K:=by
 refine Aa Ac [] Tryz.func124 rfl (by decide) ?_
 repeat' ((conv=>whnf);first|(refine BQ ?_;intros)|(refine BR ?_ ?_<;>intro e h)|(refine BS ?_ ?_<;>intro _)|refine cG ?_)
 all_goals conv=>whnf
 all_goals (refine AB h ?_;clear h;simp_all [Vo])
theorem Yh {n:Nd} (U:n.size≤1000000000) (h:K (.ret (.bool (bB n))) st):PC 201 [enc n] st K:=by
 refine Aa Ac [] Tryz.func201 rfl (by decide) ?_
 have hs:(strs (F9 n).1).length=(F9 n).1.length:=by simp [strs]
 repeat' ((conv=>whnf);first|(refine BQ ?_;intros)|(refine BR ?_ ?_<;>intro e h)|(refine BS ?_ ?_<;>intro _)|refine eQ U ?_|refine mV hs ?_)
 all_goals conv=>whnf
 all_goals (refine AB h ?_;clear h;simp_all [bB])
end
theorem JK {t:Tk} (h:B3 t=true):t.kind≠0∧t.kind≠21:=by
 unfold B3 at h
 simp only [Bool.or_eq_true,Bool.and_eq_true,beq_iff_eq] at h
 omega
theorem KJ {t:Tk} (h:IE t=true):t.kind≠0∧t.kind≠21:=by
 unfold IE at h
 simp only [Bool.or_eq_true,Bool.and_eq_true,beq_iff_eq] at h
 omega
theorem NX {t:Tk} (h:Jz t=true):t.kind≠0∧t.kind≠21:=by
 unfold Jz at h
 simp only [Bool.or_eq_true,Bool.and_eq_true,beq_iff_eq] at h
 omega
abbrev pv (b d:Nat):V:=.agg [.ptr b 0,.int .i64 (d:Int)]
section
variable {st0 st:St} {b d:Nat} {s:Ae} {rows:List (AO×List Nd)} {K:AM→St→Prop}
theorem YG {x:List UInt8} (hc:Cx st0 b s st rows) (kk:∀st',Cx st0 b s st' rows→K (.ret (.bool (Ba s 15 x))) st'):PC 137 [pv b d,.str x] st K:=by
 refine Aa Ac [] Tryz.func137 rfl (by decide) ?_
 repeat' ((conv=>whnf);first|(refine BQ ?_;intros)|(refine BR ?_ ?_<;>intro e h)|(refine BS ?_ ?_<;>intro _)|refine mR hc (fun U hc=>?_))
 all_goals conv=>whnf
 all_goals exact AB (kk U hc) (by assumption)
theorem Sq {x:List UInt8} (hc:Cx st0 b s st rows) (e:Ba s 15 x=true) (U:∀st',Cx st0 b s st' rows→K (.ret (.bool true)) st'):PC 137 [pv b d,.str x] st K:=YG hc (by rw [e];exact U)
theorem WX {x:List UInt8} (hc:Cx st0 b s st rows) (e:Ba s 15 x=false) (U:∀st',Cx st0 b s st' rows→K (.ret (.bool false)) st'):PC 137 [pv b d,.str x] st K:=YG hc (by rw [e];exact U)
theorem nA {x:List UInt8} {P Q:Prop} (hc:Cx st0 b s st rows) (h:if Ba s 15 x=true then P else Q) (U:∀st',Cx st0 b s st' rows→Ba s 15 x=true→P→K (.ret (.bool true)) st') (k2:∀st',Cx st0 b s st' rows→Ba s 15 x=false→Q→K (.ret (.bool false)) st'):
 PC 137 [pv b d,.str x] st K:=by
 cases e:Ba s 15 x with
 |true=>exact Sq hc e fun st' c=>U st' c e (by rw [if_pos e] at h;exact h)
 |false=>exact WX hc e fun st' c=>k2 st' c e (by rw [if_neg (by rw [e];decide)] at h;exact h)
theorem Yi {ks:List Int} {own:AO} (h0:ks.contains 0=false):Bh enc 250 (fun b=>[.ptr b 0,.slice 1 (ints ks) own]) (IL ks):=by
 refine ⟨fun {st0 b s st rows K} hc h=>?_⟩
 unfold IL at h
 simp only [Rd.Ao,Rd.AV] at h
 refine Aa Ac [] Tryz.func250 rfl (by decide) ?_
 repeat' ((conv=>whnf);first|(refine BQ ?_;intros)|(refine BR ?_ ?_<;>intro e h)|(refine BS ?_ ?_<;>intro _)|refine Sn hc (fun U hc=>?_)|refine N1 hc h (by assumption) (by decide) (fun s1 U hz hm hc h=>?_)|refine N2 hc h (by first|exact JK (by assumption)|exact KJ (by assumption)|omega) (fun s1 U hz hm hc h=>?_)|refine IF.go hc h (fun n s1 U hr hm hc h=>?_) (fun e s1 U hc h=>?_)|refine S2 hc h (fun e s1 U hc h=>?_)|exact C4 hc.y h|exact C4 hc.drop.y h|refine Ew (fun _=>?_)|refine Al (fun e1=>?_)|exact ⟨⟨_,_,_,_⟩,⟨hc,Rd.Ho h (by first|omega|(dsimp only<;>omega)),(by first|omega|(simp only [List.length_append,List.length_cons,List.length_nil]<;>omega)|(dsimp only<;>omega)),(by first|omega|(dsimp only<;>omega))⟩,(by first|omega|(dsimp only<;>omega)),(by refine ⟨rfl,?_,?_,rfl⟩<;>repeat' (first|exact trivial|exact rfl|refine And.intro ?_ ?_)),St.le_refl _⟩|exact ⟨_,_,.inl rfl,St.le_refl _,h _ _ hc⟩|exact Eu hc h rfl|exact Eu hc h CI|exact Eu hc.drop h rfl|exact Eu hc.drop h CI|exact C4 hc h|exact C4 hc.drop h|exact C4 hc.drop.drop h|refine WA (fun _=>?_))
 refine R1 (α:=Nat×St) (fun x=>[(12,.int .i64 (x.1:Int))]) [0,4,5,10,11] [0,1] (fun x=>x.2) (fun x=>x.1≤ks.length∧Cx st0 b s x.2 rows∧ks.contains (Ad s).1.kind=(ks.drop x.1).contains (Ad s).1.kind) (fun x=>ks.length - x.1) (0,_) ⟨Nat.zero_le _,hc,rfl⟩ Yl (St.le_refl _) ?_
 rintro ⟨k,st2⟩ ⟨hk,hc2,hi⟩
 dsimp only at hk hc2 hi ⊢
 by_cases hlt:k<ks.length
 ·obtain ⟨x,hx⟩:∃x,ks[(k:Int).toNat]? =some x:=⟨_,List.getElem?_eq_getElem hlt⟩
  have hx':ks[k]? =some x:=hx
  rw [drop_at hx',List.contains_cons] at hi
  have hx1:=hx
  by_cases e:(Ad s).1.kind=x
  ·rw [beq_iff_eq.2 e,Bool.true_or] at hi
   rw [if_pos hi] at h
   have hkd:(Ad s).1.kind≠0:=fun z=>by rw [z] at hi;rw [h0] at hi;cases hi
   have hc:=hc2
   repeat' ((conv=>whnf);first|refine ee hx (by omega) ?_|(refine BQ ?_;intros)|(refine BR ?_ ?_<;>intro e h)|(refine BS ?_ ?_<;>intro _)|refine IF.go hc h (fun n s1 U hr hm hc h=>?_) (fun e s1 U hc h=>?_)|exact Eu hc h rfl|exact C4 hc h)
  ·rw [beq_eq_false_iff_ne.2 e,Bool.false_or] at hi
   repeat' ((conv=>whnf);first|refine ee hx (by omega) ?_|(refine BQ ?_;intros)|(refine BR ?_ ?_<;>intro e h)|(refine BS ?_ ?_<;>intro _)|fail)
   all_goals conv=>whnf
   all_goals exact ⟨(k+1,st2),⟨hlt,hc2,hi⟩,Nat.sub_lt_sub_left hlt (Nat.lt_succ_self k),Yl,St.le_refl _⟩
 ·rw [List.drop_eq_nil_iff.2 (by omega)] at hi
  rw [if_neg (by rw [hi];exact Bool.false_ne_true)] at h
  have hc:=hc2
  repeat' ((conv=>whnf);first|(refine BQ ?_;intros)|(refine BR ?_ ?_<;>intro e h)|(refine BS ?_ ?_<;>intro _)|refine S2 hc h (fun e s1 U hc h=>?_)|exact C4 hc h)
theorem ek:Bh enc 250 (fun b=>[.ptr b 0,.slice 1 [[.int .i64 1],[.int .i64 2],[.int .i64 3],[.int .i64 4]] .full]) (IL [1,2,3,4]):=Yi (ks:=[1,2,3,4]) (by decide)
theorem NP:Bh enc 199 (fun b=>[pv b d]) Fv:=by
 refine ⟨fun {st0 b s st rows K} hc h=>?_⟩
 unfold Fv at h
 simp only [Rd.Ao,Rd.AV,Rd.wp_seq,Rd.wp_ret] at h
 refine Aa Ac [] Tryz.func199 rfl (by decide) ?_
 repeat' ((conv=>whnf);first|exact FR|(refine BQ ?_;intros)|(refine FT ?_ ?_ ?_;rotate_left)|(refine BR ?_ ?_<;>intro e h)|(refine BS ?_ ?_<;>intro _)|refine Sn hc (fun U hc=>?_)|refine N1 hc h (by assumption) (by decide) (fun s1 U hz hm hc h=>?_)|refine N2 hc h (by first|exact JK (by assumption)|exact KJ (by assumption)|omega) (fun s1 U hz hm hc h=>?_)|refine IF.go hc h (fun n s1 U hr hm hc h=>?_) (fun e s1 U hc h=>?_)|refine Y2.go hc h (fun n s1 U hr hm hc h=>?_) (fun e s1 U hc h=>?_)|exact C4 hc.y h|exact C4 hc.drop.y h|refine HT ?_|refine Ys ?_|refine Yt ?_|refine Sc ?_|refine Yu ?_|refine Jq ?_|refine Al (fun e1=>?_)|exact ⟨⟨_,_,_,_⟩,⟨hc,Rd.Ho h (by first|omega|(dsimp only<;>omega)),(by first|omega|(simp only [List.length_append,List.length_cons,List.length_nil]<;>omega)|(dsimp only<;>omega)),(by first|omega|(dsimp only<;>omega))⟩,(by first|omega|(dsimp only<;>omega)),(by refine ⟨rfl,?_,?_,rfl⟩<;>repeat' (first|exact trivial|exact rfl|refine And.intro ?_ ?_)),St.le_refl _⟩|exact ⟨_,_,.inl rfl,St.le_refl _,h _ _ hc⟩|exact Eu hc h rfl|exact Eu hc h CI|exact Eu hc.drop h rfl|exact Eu hc.drop h CI|exact C4 hc h|exact C4 hc.drop h|exact C4 hc.drop.drop h|refine ek.go hc h (fun n s1 U hr hm hc h=>?_) (fun e s1 U hc h=>?_)|refine Ar [(0,true),(1,true),(2,true),(3,true),(4,false),(5,true),(6,false),(7,false)] [1] (by decide +kernel) ?_|with_reducible refine WF ?_)
end
theorem E2 {P:Prop} (h:P:=by (with_reducible show ∃_,_);first|exact ⟨⟨_,_,_,_⟩,⟨hc,Rd.Ho h (by first|omega|(dsimp only<;>omega)),(by first|omega|(simp only [List.length_append,List.length_cons,List.length_nil]<;>omega)|(dsimp only<;>omega)),(by first|omega|(dsimp only<;>omega))⟩,(by first|omega|(dsimp only<;>omega)),Yl,St.le_refl _⟩|exact C4 hc.y h|exact C4 hc.drop.y h|exact ⟨_,_,.inl rfl,St.le_refl _,h _ _ hc⟩|exact Eu hc h rfl|exact Eu hc h CI|exact Eu hc.drop h rfl|exact Eu hc.drop h CI|exact C4 hc h|exact C4 hc.drop h|exact C4 hc.drop.drop h|fail):P:=h
theorem Kf {P A:Prop} (k:A) (h:A→P:=by intro k;(with_reducible show Ai _ _ _ _ _ _ _);first|exact hc.KT (by first|omega|(simp only [List.length_append,List.length_cons,List.length_nil]<;>omega)) k|exact Cx.KT (hc.push _) (by first|omega|(simp only [List.length_append,List.length_cons,List.length_nil]<;>omega)) k|fail):P:=h k
theorem G5 {P A:Prop} (k:A) (h:A→P:=by intro k;(with_reducible show PC _ _ _ _);first|((with_reducible show PC 98 _ _ _);exact ei hc (by assumption) k)|((with_reducible show PC 98 _ _ _);exact lG hc (by assumption) k)|((with_reducible show PC 137 _ _ _);exact Sq hc (by assumption) k)|((with_reducible show PC 137 _ _ _);exact WX hc (by assumption) k)|((with_reducible show PC 135 _ _ _);exact Sn hc k)|fail):P:=h k
theorem Kv {P A B:Prop} (k:A) (l:B) (h:A→B→P:=by intro k l;(with_reducible show PC _ _ _ _);first|((with_reducible show PC 98 _ _ _);exact oE hc h k l)|((with_reducible show PC 137 _ _ _);exact nA hc h k l)|fail):P:=h k l
theorem JH {P A:Prop} (k:A) (h:A→P:=by intro k;(with_reducible show PC _ _ _ _);first|((with_reducible show PC 100 _ _ _);exact N1 hc h (by assumption) (by decide) k)|((with_reducible show PC 100 _ _ _);exact N2 hc h (by first|exact JK (by assumption)|exact KJ (by assumption)|omega) k)|fail):P:=h k
theorem HX {P A B:Prop} (k:A) (l:B) (h:A→B→P:=by intro k l;(with_reducible show PC _ _ _ _);first|((with_reducible show PC 100 _ _ _);exact IF.go hc h k l)|((with_reducible show PC 167 _ _ _);exact Y2.go hc h k l)|fail):P:=h k l
theorem bQ {P A:Prop} (k:A) (h:A→P:=by intro k;(with_reducible show PC _ _ _ _);first|((with_reducible show PC 191 _ _ _);exact S2 hc h k)|fail):P:=h k
theorem IY {P A:Prop} (k:A) (h:A→P:=by intro k;(with_reducible show PC _ _ _ _);first|((with_reducible show PC 249 _ _ _);exact HT k)|((with_reducible show PC 241 _ _ _);exact jK k)|((with_reducible show PC 170 _ _ _);exact S1 k)|((with_reducible show PC 121 _ _ _);exact Ys k)|((with_reducible show PC 121 _ _ _);exact Yt k)|((with_reducible show PC 121 _ _ _);exact Sc k)|((with_reducible show PC 121 _ _ _);exact Yu k)|((with_reducible show PC 121 _ _ _);exact Jq k)|((with_reducible show PC 190 _ _ _);exact mF k)|fail):P:=h k
theorem nP {t:Tk} (h:IE t=true):t.kind≠21:=(KJ h).2
theorem OS:Rd.A6 Fv:=Rd.A6.look fun s v s' h=>by
 split at h
 ·rename_i U
  exact Rd.A6.at (fun v s' e=>JD e (nP U)) h
 ·exact Rd.A6.seq (OT (by decide)) s v s' h
section
variable {st0 st:St} {b d:Nat} {s:Ae} {rows:List (AO×List Nd)} {K:AM→St→Prop}
attribute [local irreducible] Go.Aw.Ai
theorem fS {br:Bool} {opd:Rd Nd} (ho:Bh enc 240 (fun b=>[pv b d]) opd):n7 (fun p own=>.Bo [.slice 6 (p.1.map A3) own,.bool p.2]) (·.1) 189 (fun b=>[pv b d,.bool br]) (Ed opd br):=by
 refine ⟨fun {st0 b s st rows K} hc h=>?_⟩
 unfold Ed at h
 refine Aa Ac [] Tryz.func189 rfl (by decide) ?_
 have hmu:=hc.mu
 repeat' ((conv=>whnf);first|(refine BQ ?_;intros)|(refine BR ?_ ?_<;>intro e h)|(refine BS ?_ ?_<;>intro _)|refine Y5 (fun _=>?_) ?_|fail)
 refine CM (fun l own=>[(4,.slice 6 (l.map A3) own)]) (fun _ _=>[]) [1,2] [0] (fun l own=>(own,l)::rows) (fun l=>l.length) .full (hc.push []) h (by show 0+_≤_;omega) Yl ?_
 intro l s1 U own1 hc h hl hm1
 simp only [GL,Rd.Ao,Rd.AV,Rd.wp_seq,Rd.wp_ret,Rd.BB] at h
 repeat' ((conv=>whnf);first|(refine BQ ?_;intros)|(refine BR ?_ ?_<;>intro e h)|(refine BS ?_ ?_<;>intro _)|refine Y5 (fun _=>?_) ?_|fail)
 unfold Iq at h
 refine CM (fun l own=>[(4,.slice 6 (l.map A3) own)]) (fun _ _=>[]) [1,2] [0] (fun l own=>(own,l)::rows) (fun l=>l.length) own1 hc h hl Yl ?_
 intro l2 s2 st2 own2 hc h hl hm2
 simp only [Ip,Rd.Ao,Rd.AV,Rd.wp_seq,Rd.wp_ret,Rd.BB] at h
 cases br
 ·simp only [Bool.false_eq_true,if_false] at h
  repeat' ((conv=>whnf);first|(refine BQ ?_;intros)|(refine BR ?_ ?_<;>intro e h)|(refine BS ?_ ?_<;>intro _)|refine Y5 (fun _=>?_) ?_|(refine G5 ?_;intro U hc)|(refine Kv ?_ ?_<;>intro U hc e h)|(refine JH ?_;intro s1 U hz hm hc h)|refine HX (fun n s1 U hr hm hc h=>?_) (fun e s1 U hc h=>?_)|exact E2|refine IY ?_|(refine Kf ?_;intro own1 U hc)|refine Al (fun e1=>?_)|refine ho.go hc h (fun n s1 U hr hm hc h=>?_) (fun e s1 U hc h=>?_)|refine NP.mM OS hc h (fun n s1 U hr hm hc h=>?_) (fun e s1 U hc h=>?_))
 ·simp only [if_true] at h
  repeat' ((conv=>whnf);first|(refine BQ ?_;intros)|(refine BR ?_ ?_<;>intro e h)|(refine BS ?_ ?_<;>intro _)|refine Y5 (fun _=>?_) ?_|(refine G5 ?_;intro U hc)|(refine Kv ?_ ?_<;>intro U hc e h)|(refine JH ?_;intro s1 U hz hm hc h)|refine HX (fun n s1 U hr hm hc h=>?_) (fun e s1 U hc h=>?_)|exact E2|refine IY ?_|(refine Kf ?_;intro own1 U hc)|refine Al (fun e1=>?_)|refine ho.go hc h (fun n s1 U hr hm hc h=>?_) (fun e s1 U hc h=>?_)|refine NP.mM OS hc h (fun n s1 U hr hm hc h=>?_) (fun e s1 U hc h=>?_))
end
section
variable {st:St} {R:AM→St→Prop}
attribute [local irreducible] Go.Aw.Ai
theorem gI {deep:Int} {A:Ae→Rs} (U:¬deep<1→Dm 101 (if 100<deep then 100 else deep) A):E4 287 deep A:=by
 intro s hm st R h
 refine Aa Ac [] Tryz.func287 rfl (by decide) ?_
 repeat' ((conv=>whnf);first|(refine Bc ?_;intros)|(refine Be ?_ ?_<;>intro _)|refine XI (s:=s) (q:=A s) (fun hd=>U hd s hm) ?_)
 all_goals exact B8 rfl h
theorem jA {deep:Int} {A:Ae→Rs} (U:¬deep<1→Dm 50 (if 100<deep then 100 else deep) A):E4 14 deep A:=by
 intro s hm st R h
 refine Aa Ac [] Tryz.func14 rfl (by decide) ?_
 repeat' ((conv=>whnf);first|(refine Bc ?_;intros)|(refine Be ?_ ?_<;>intro _)|refine XI (s:=s) (q:=A s) (fun hd=>U hd s hm) ?_)
 all_goals exact B8 rfl h
end
def KM (Y:Ae→Rs) (n:Nd) (s:Ae):Ls:=match Y s with
 | .inl e=>.inl e
 | .inr q=>BT Y [n,q.1] q.2
def bO (st:St) (b:Nat) (R:AM→St→Prop):Ls→Prop
 | .inr (l,s')=>∀st' U,GR st st' b s'→U.Bn st'→R (.ret (.slice 6 (l.map A3) U)) (U.st st' (l.length*6))
 | .inl (e,s')=>∀st',GR st st' b s'→R (.Cg (fault e)) st'
theorem Mu {Y:Ae→Rs} {l:List Nd} {s:Ae} {n:Nd} {s':Ae} (h:Ba s 15 [44]=true) (U:Y (Ad s).2.1=.inr (n,s')) (hm:mu s'<mu s):BT Y l s=BT Y (l++[AJ (Ad s).1,n]) s':=by
 rw [BT,if_pos h,U]
 dsimp only
 rw [if_pos hm]
section
variable {st:St} {R:AM→St→Prop}
attribute [local irreducible] Go.Aw.Ai
theorem k8 {d:Nat} {Y:Ae→Rs} (hY:E4 287 d Y) (h0:d=0→∀s,Y s=.inl (2,s)) (hB:EJ Y) (hF:A6 Y) {n1:Nd} {s:Ae} {b:Nat} {x:Int} (hx:x=(d:Int)) (hm:mu s≤100000000) (hs:Has st b s) (h:bO st b R (KM Y n1 s)):
 PC 286 [.ptr b 0,.slice 6 [A3 n1] .full,.int .i64 x] st R:=by
 refine Aa Ac [] Tryz.func286 rfl (by decide) ?_
 unfold KM at h
 have hn1:[n1].length+1≤1000000000:=by show 1+1≤1000000000;decide
 repeat' ((conv=>whnf);first|(refine Bc ?_;intros)|(refine Be ?_ ?_<;>intro _)|refine Ka (fun _=>?_) ?_|refine RN hx hY h0 hB hm hs (DC (fun n2 s2 hq2 st2 h2=>?_) (fun e2 s2 hq2 st2 h2=>?_))|refine Mz (l:=[n1]) (x:=n2) (own:=.full) trivial hn1 (fun own1 ho1=>?_))
 ·rw [hq2] at h
  have hd2:=hF _ _ _ hq2
  dsimp only at h
  refine Jo (α:=List Nd×Ae×St×AO) (fun x=>[(1,.slice 6 (x.1.map A3) x.2.2.2)]) [0,2,6] (fun x=>[]) [] (fun x=>x.2.2.2.st x.2.2.1 (x.1.length*6))
   (fun x=>x.2.2.2.Bn x.2.2.1∧GR st x.2.2.1 b x.2.1∧x.1.length+2*mu x.2.1≤400000000∧mu x.2.1≤mu s∧BT Y x.1 x.2.1=BT Y [n1,n2] s2) (fun x=>mu x.2.1) ([n1]++[n2],s2,st2,own1)
   ⟨ho1,h2,by show 2+2*mu s2≤_;omega,by show mu s2≤_;omega,rfl⟩ Yl (St.le_refl _) ?_
  rintro ⟨l,U,st3,own⟩ ⟨j1,j2,j5,j6,j7⟩
  dsimp only at j1 j2 j5 j6 j7
  have hm3:mu U≤100000000:=by omega
  have hb3:=ET hm3
  have hl3:Has (st3.Ab b (CK U)) b U:=.inl (St.Ah ..)
  have g3:own.Bn (st3.Ab b (CK U)):=HC j1 j2.1
  have hn:l.length+2≤1000000000:=by omega
  have hm4:Ba U 15 [44]=true→mu (Ad U).2.1≤100000000:=fun e=>by have:=CJ e (by decide) (by decide);omega
  repeat' ((conv=>whnf);first|(refine Bc ?_;intros)|(refine Be ?_ ?_<;>intro _)|refine Ka (fun _=>?_) ?_|refine mP j2.1 hb3 ?_|refine Fl (hl3.hw own _) hb3 (PR g3 hl3 (Gn (by assumption) (by decide)) (fun st4 h4 g4=>?_))|refine RN hx hY h0 hB (hm4 (by assumption)) (h4.1.hw own _) (E1 g4 h4.1 (FG (fun n5 s5 hq5 st5 h5 g5=>?_) (fun e5 s5 hq5 st5 h5 g5=>?_)))|refine bZ (l:=l) (x:=AJ (Ad U).1) (y:=n5) g5 hn (fun own' ho'=>?_))
  all_goals conv=>whnf
  ·have hp:Ba U 15 [44]=true:=by assumption
   have hd:=hF _ _ _ hq5
   have hd3:=CJ hp (by decide) (by decide)
   have hd4:mu s5<mu U:=by omega
   have hu:=(AU (st:=st3) (b:=b) (s:=U)).trans (h4.trans h5)
   refine ⟨(l++[AJ (Ad U).1,n5],s5,st5,own'),⟨ho',j2.trans hu,?_,by show mu s5≤_;omega,?_⟩,hd4,Yl,St.le_refl _⟩
   ·show (l++[AJ (Ad U).1,n5]).length+2*mu s5≤_
    rw [List.length_append]
    show l.length+2+2*mu s5≤_
    omega
   ·show BT Y (l++[AJ (Ad U).1,n5]) s5=_
    rw [←j7,Mu (l:=l) hp hq5 hd4]
  ·have hp:Ba U 15 [44]=true:=by assumption
   have hu:=(AU (st:=st3) (b:=b) (s:=U)).trans (h4.trans h5)
   have hr:BT Y l U=.inl (e5,s5):=by rw [BT,if_pos hp,hq5]
   rw [←j7,hr] at h
   exact Ej (AO.Bu g5) rfl (h st5 (j2.trans hu))
  ·have hr:BT Y l U=.inr (l,U):=by rw [BT,if_neg (Bool.eq_false_iff.1 (by assumption))]
   rw [←j7,hr] at h
   exact fin (h _ own (j2.trans AU) g3) rfl
 ·rw [hq2] at h
  exact fin (h st2 h2) rfl
end
section
variable {st:St} {R:AM→St→Prop}
attribute [local irreducible] Go.Aw.Ai
theorem mQ {b:Nat} {s:Ae} {k:Int} {x:List UInt8} (e:Ba s k x=true) (U:Has st b s) (hb:s.CG.length≤500000000) (h:R (.ret (.bool true)) (st.Ab b (CK s))):PC 98 [.ptr b 0,.int .i64 k,.str x] st R:=VS U hb (by rw [e];exact h)
theorem Z2 {b:Nat} {s:Ae} {k:Int} {x:List UInt8} (e:Ba s k x=false) (U:Has st b s) (hb:s.CG.length≤500000000) (h:R (.ret (.bool false)) (st.Ab b (CK s))):PC 98 [.ptr b 0,.int .i64 k,.str x] st R:=VS U hb (by rw [e];exact h)
theorem Ex {st:St} {b:Nat} {s:Ae}:Has (st.Ab b (CK s)) b s:=.inl (St.Ah ..)
theorem Zs {l:List Nd} {s:Ae} (h:Ba s 15 [44]=true):B2 l s=B2 (l++[AJ (Ad s).1]) (Ad s).2.1:=by
 rw [B2,if_pos h,if_pos (CJ h (by decide) (by decide))]
theorem Vq {l:List Nd} {s:Ae} (h:Ba s 15 [44]=false):B2 l s=(l,s):=by
 rw [B2,if_neg (by rw [h];decide)]
theorem Xp {Y:Ae→Rs} (l:List Nd) (s:Ae):∀q s',BT Y l s=.inr (q,s')→q.length+2*mu s'≤l.length+2*mu s:=by
 fun_induction BT Y l s with
 |case1 l s U e1 h2=>intro e s' h;cases h
 |case2 l s U p h2 h3 ih=>
  intro e s' h
  have:=ih e s' h
  rw [List.length_append] at this
  have e2:[AJ (Ad s).1,p.1].length=2:=rfl
  omega
 |case3 l s U p h2 h3=>intro e s' h;cases h
 |case4 l s U=>intro e s' h;cases h;exact Nat.le_refl _
theorem bA {Y:Ae→Rs} (hF:A6 Y) {n:Nd} {s:Ae} {l:List Nd} {s':Ae} (h:KM Y n s=.inr (l,s')):mu s'≤mu s∧l.length≤2+2*mu s:=by
 unfold KM at h
 split at h
 ·cases h
 ·rename_i h1
  have h2:=hF _ _ _ h1
  have h3:=HU _ _ _ _ h
  have h4:=Xp _ _ _ _ h
  have U:∀a b:Nd,[a,b].length=2:=fun _ _=>rfl
  rw [U] at h4
  omega
theorem bf {st:St} {b:Nat} {K:AM→St→Prop} {q:Ls} (h:∀l s',q=.inr (l,s')→∀st' U,GR st st' b s'→U.Bn st'→K (.ret (.slice 6 (l.map A3) U)) (U.st st' (l.length*6)))
 (k:∀e s',q=.inl (e,s')→∀st',GR st st' b s'→K (.Cg (fault e)) st'):bO st b K q:=by
 match q with
 | .inr (l,s')=>exact h l s' rfl
 | .inl (e,s')=>exact k e s' rfl
theorem kF {d:Nat} {x:Int} (hx:x=((d+1:Nat):Int)) (hd:d≤1000000) {Y:Ae→Rs} (hY:E4 287 d Y) (h0:d=0→∀s,Y s=.inl (2,s)) (hB:EJ Y) (hF:A6 Y):Dm 232 x (DV Y):=by
 intro s hm b st R hs h
 refine Aa Ac [] Tryz.func232 rfl (by decide) ?_
 have hb:=ET hm
 unfold DV at h
 cases hq1:C7 s with
 |inl q=>
  rw [hq1] at h
  obtain ⟨e,s'⟩:=q
  repeat' ((conv=>whnf);first|(refine Bc ?_;intros)|(refine Be ?_ ?_<;>intro _)|refine Fl hs hb (SG hq1 (fun st1 h1=>?_)))
  all_goals exact fin (h st1 h1) rfl
 |inr q=>
  obtain ⟨n1,s1⟩:=q
  rw [hq1] at h
  have hm1:mu s1≤100000000:=by have:=(N3 hq1).1;omega
  have hb1:=ET hm1
  have hn1:[n1].length+1≤1000000000:=by show 1+1≤1000000000;decide
  dsimp only at h
  cases hA:Ba s1 10 [45,62] with
  |true=>
   rw [if_pos hA] at h
   have LN:(Ad s1).2.1.CG.length≤500000000:=ET (by have:=CJ hA (by decide) (by decide);omega)
   have hn2:∀n2:Nd,([n1]++[n2]).length+1≤1000000000:=fun _=>by show 2+1≤1000000000;decide
   repeat' ((conv=>whnf);first|(refine Bc ?_;intros)|(refine Be ?_ ?_<;>intro _)|refine Fl hs hb (Gp hq1 (fun st1 h1=>?_))|refine mQ hA h1.1 hb1 ?_|refine Fl Ex hb1 (Gp (Gn hA (by decide)) (fun st2 h2=>?_))|refine Mz (l:=[n1]) (x:=AJ (Ad s1).1) (own:=.full) trivial hn1 (fun own1 ho1=>?_)|refine PY (h2.1.hw own1 _) LN (E1 ho1 h2.1 (FG (fun n3 s3 hq3 U h3 hg3=>?_) (fun e3 s3 hq3 U h3 hg3=>?_)))|refine Mz (l:=[n1]++[AJ (Ad s1).1]) (x:=n3) hg3 (hn2 _) (fun own2 ho2=>?_))
   all_goals unfold GP at h
   all_goals rw [hq3] at h
   ·exact Ej (AO.Bu ho2) CI (h U ((h1.trans AU).trans (h2.trans h3)))
   ·exact Ej (AO.Bu hg3) rfl (h U ((h1.trans AU).trans (h2.trans h3)))
  |false=>
  rw [if_neg (by rw [hA];decide)] at h
  cases hC:Ba s1 15 [41] with
  |true=>
   rw [if_pos hC] at h
   repeat' ((conv=>whnf);first|(refine Bc ?_;intros)|(refine Be ?_ ?_<;>intro _)|refine Fl hs hb (Gp hq1 (fun st1 h1=>?_))|refine Z2 hA h1.1 hb1 ?_|refine mQ hC Ex hb1 ?_|refine PY Ex hb1 (DC (fun n3 s3 hq3 U h3=>?_) (fun e3 s3 hq3 U h3=>?_))|refine Mz (l:=[n1]) (x:=n3) (own:=.full) trivial hn1 (fun own2 ho2=>?_))
   all_goals unfold GP at h
   all_goals rw [hq3] at h
   ·exact Ej (AO.Bu ho2) CI (h U (((h1.trans AU).trans AU).trans h3))
   ·exact fin (h U (((h1.trans AU).trans AU).trans h3)) rfl
  |false=>
  rw [if_neg (by rw [hC];decide)] at h
  cases hE:Ba s1 15 [44] with
  |true=>
   rw [if_pos hE] at h
   repeat' ((conv=>whnf);first|(refine Bc ?_;intros)|(refine Be ?_ ?_<;>intro _)|refine Fl hs hb (Gp hq1 (fun st1 h1=>?_))|refine Z2 hA h1.1 hb1 ?_|refine Z2 hC Ex hb1 ?_|refine mQ hE Ex hb1 ?_)
   refine Jo (α:=List Nd×Ae×St×AO) (fun x=>[(5,.slice 6 (x.1.map A3) x.2.2.2)]) [0,1,4,6] (fun x=>[]) [0] (fun x=>x.2.2.2.st x.2.2.1 (x.1.length*6))
    (fun x=>x.2.2.2.Bn x.2.2.1∧GR st x.2.2.1 b x.2.1∧x.1.length+mu x.2.1≤200000000∧mu x.2.1≤mu s1∧B2 x.1 x.2.1=B2 [n1] s1) (fun x=>mu x.2.1) ([n1],s1,_,.full)
    ⟨trivial,((h1.trans AU).trans AU).trans AU,by show 1+mu s1≤_;omega,Nat.le_refl _,rfl⟩ Yl (St.le_refl _) ?_
   rintro ⟨l,s3,U,own⟩ ⟨j1,j2,j5,j6,j7⟩
   dsimp only at j1 j2 j5 j6 j7
   have hm3:mu s3≤100000000:=by omega
   have hb3:=ET hm3
   have hl3:Has (U.Ab b (CK s3)) b s3:=.inl (St.Ah ..)
   have g3:own.Bn (U.Ab b (CK s3)):=HC j1 j2.1
   have hn:l.length+1≤1000000000:=by omega
   repeat' ((conv=>whnf);first|(refine Bc ?_;intros)|(refine Be ?_ ?_<;>intro _)|refine mP j2.1 hb3 ?_|refine Fl (hl3.hw own _) hb3 (PR g3 hl3 (Gn (by assumption) (by decide)) (fun st4 h4 g4=>?_))|refine Mz (l:=l) (x:=AJ (Ad s3).1) g4 hn (fun own' ho'=>?_)|refine PY (hl3.hw own _) hb3 (E1 g3 hl3 (FG (fun n5 s5 hq5 st5 h5 g5=>?_) (fun e5 s5 hq5 st5 h5 g5=>?_)))|refine Mz (l:=l) (x:=n5) g5 hn (fun own' ho'=>?_))
   all_goals conv=>whnf
   ·have hp:Ba s3 15 [44]=true:=by assumption
    have hd3:=CJ hp (by decide) (by decide)
    refine ⟨(l++[AJ (Ad s3).1],(Ad s3).2.1,st4,own'),⟨ho',j2.trans (AU.trans h4),?_,by show mu (Ad s3).2.1≤_;omega,?_⟩,hd3,Yl,St.le_refl _⟩
    ·show (l++[AJ (Ad s3).1]).length+mu (Ad s3).2.1≤_
     rw [List.length_append,List.length_singleton]
     omega
    ·show B2 (l++[AJ (Ad s3).1]) (Ad s3).2.1=_
     rw [←j7,Zs (l:=l) hp]
   all_goals rw [←j7,Vq (by assumption)] at h
   all_goals unfold GP at h
   all_goals dsimp only at h
   all_goals rw [hq5] at h
   ·exact Ej (AO.Bu ho') CI (h st5 (j2.trans (AU.trans h5)))
   ·exact Ej (AO.Bu g5) rfl (h st5 (j2.trans (AU.trans h5)))
  |false=>
   rw [if_neg (by rw [hE];decide)] at h
   replace h:Fu st b R (match KM Y n1 s1 with
    | .inl e=>(.inl e:Rs)
    | .inr r=>GP (if 2<r.1.length then 5 else 4) r.1 r.2 [41]):=by
    unfold KM
    cases hy:Y s1 with
    |inl e=>rw [hy] at h;exact h
    |inr q=>rw [hy] at h;exact h
   have hbl:∀{l s2},KM Y n1 s1=.inr (l,s2)→s2.CG.length≤500000000∧l.length+1≤1000000000:=fun e=>by
    have:=bA hF e
    exact ⟨ET (by omega),by omega⟩
   repeat' ((conv=>whnf);first|(refine Bc ?_;intros)|(refine Be ?_ ?_<;>intro _)|refine Fl hs hb (Gp hq1 (fun st1 h1=>?_))|refine Z2 hA h1.1 hb1 ?_|refine Z2 hC Ex hb1 ?_|refine Z2 hE Ex hb1 ?_|refine k8 hY h0 hB hF (n1:=n1) (by omega) hm1 Ex (bf (fun l s2 hq2 st2 own1 h2 g2=>?_) (fun e2 s2 hq2 st2 h2=>?_))|refine Ew (fun _=>?_)|refine PY (h2.1.hw own1 _) (hbl hq2).1 (E1 g2 h2.1 (FG (fun n3 s3 hq3 U h3 hg3=>?_) (fun e3 s3 hq3 U h3 hg3=>?_)))|refine Mz (l:=l) (x:=n3) hg3 (hbl hq2).2 (fun own2 ho2=>?_))
   all_goals rw [hq2] at h
   all_goals dsimp only at h
   all_goals try unfold GP at h
   all_goals try rw [hq3] at h
   all_goals have hu:=(((h1.trans AU).trans AU).trans AU).trans h2
   ·rw [if_pos (by omega)] at h
    exact Ej (AO.Bu ho2) CI (h U (hu.trans h3))
   ·exact Ej (AO.Bu hg3) rfl (h U (hu.trans h3))
   ·rw [if_neg (by omega)] at h
    exact Ej (AO.Bu ho2) CI (h U (hu.trans h3))
   ·exact Ej (AO.Bu hg3) rfl (h U (hu.trans h3))
   ·exact fin (h st2 hu) rfl
end
theorem Q8 {d:Nat} (h:d=0) (s:Ae):DD d s=.inl (2,s):=by subst h;rfl
theorem cg {d:Nat} (U:d+1≤1000000) (h:E4 287 (d:Int) (DD d)):Dm 158 ((d+1:Nat):Int) (C3 (DD d)):=
 mf (kF rfl (by omega) h (fun e s=>Q8 e s) (Hq d) (Cp d)) (gq (by omega) h (fun e s=>Q8 e s) (Hq d) (Cp d))
theorem NU {d:Nat} (U:d+1≤1000000) (h:E4 287 (d:Int) (DD d)):Dm 97 ((d+1:Nat):Int) (Ft (C3 (DD d))):=
 nF (cg U h) (Dr (Cp d))
theorem Ra {d:Nat} (U:d+1≤1000000) (h:E4 287 (d:Int) (DD d)):Dm 101 ((d+1:Nat):Int) (Dg (C3 (DD d))):=
 lg (NU U h) (S0 (NU U h) (Dr (Cp d))) (Dr (Cp d))
theorem UR:∀d:Nat,d≤100→E4 287 (d:Int) (DD d)
 |0,_=>gI fun h=>absurd (by decide) h
 |d+1,U=>gI fun _=>by
  rw [if_neg (by omega)]
  exact Ra (by omega) (UR d (by omega))
def DK (deep:Int):Nat:=(if 100<deep then 100 else deep).toNat
theorem mr (deep:Int):DK deep≤100:=by unfold DK;split<;>omega
theorem mq {deep:Int} (h:¬deep<1):(if 100<deep then 100 else deep)=((DK deep - 1+1:Nat):Int):=by unfold DK;split<;>omega
section
variable {st:St} {R:AM→St→Prop}
attribute [local irreducible] Go.Aw.Ai
theorem mK {d:Int} {A:Ae→Rs} (hr:Dm 97 d (Ft A)) (ha:U5 99 d (Cw A)) (hw:Dm 101 d (Dg A)) (hF:A6 A):Dm 50 d (Eg A):=by
 intro s hm b st R hs h
 refine Aa Ac [] Tryz.func50 rfl (by decide) ?_
 unfold Eg at h
 have hm1:∀{n1 s1},Ft A s=.inr (n1,s1)→mu s1≤100000000:=fun e=>by have:=Hy hF _ _ _ e;omega
 have hm2:∀{n1 s1},Ft A s=.inr (n1,s1)→Ba s1 10 [61,62]=true→mu (Ad s1).2.1≤100000000:=fun e i=>by have:=hm1 e;have:=CJ i (by decide) (by decide);omega
 repeat' ((conv=>whnf);first|exact Cq|(refine Bc ?_;intros)|(refine Cr ?_ ?_ ?_;rotate_left)|(refine Be ?_ ?_<;>intro _)|refine hr s hm b _ _ hs (DC (fun n1 s1 U st1 h1=>?_) (fun e1 s1 U st1 h1=>?_))|refine VS h1.1 (ET (hm1 U)) ?_|refine ha n1 s1 (hm1 U) b _ _ Ex (DC (fun n2 s2 hq2 st2 h2=>?_) (fun e2 s2 hq2 st2 h2=>?_))|refine Ar [(0,true),(1,true),(3,true),(4,true),(2,false),(5,false),(6,true),(7,true),(8,false)] [0] (by kernel_rfl) ?_|refine Fl Ex (ET (hm1 U)) (Gp (Gn (by assumption) (by decide)) (fun st2 h2=>?_))|refine hw (Ad s1).2.1 (hm2 U (by assumption)) b _ _ h2.1 (DC (fun n3 s3 hq3 st3 h3=>?_) (fun e3 s3 hq3 st3 h3=>?_))|with_reducible refine WF ?_)
 all_goals rw [U] at h
 all_goals dsimp only at h
 ·rw [if_pos (by assumption),hq3] at h
  exact Ej (St.le_refl _) (CI (l:=[n1,AJ (Ad s1).1,n3])) (h st3 ((h1.trans AU).trans (h2.trans h3)))
 ·rw [if_pos (by assumption),hq3] at h
  intro e'
  exact fin (h st3 ((h1.trans AU).trans (h2.trans h3))) rfl
 ·rw [if_neg (Bool.eq_false_iff.1 (by assumption)),hq2] at h
  exact B8 rfl (h st2 ((h1.trans AU).trans h2))
 ·rw [if_neg (Bool.eq_false_iff.1 (by assumption)),hq2] at h
  exact fin (h st2 ((h1.trans AU).trans h2)) rfl
 ·exact fin (h st1 h1) rfl
theorem dU {d:Nat} (U:d+1≤1000000) (h:E4 287 (d:Int) (DD d)):Dm 50 ((d+1:Nat):Int) (Eg (C3 (DD d))):=
 mK (NU U h) (S0 (NU U h) (Dr (Cp d))) (Ra U h) (Dr (Cp d))
theorem ow {deep:Int}:E4 14 deep (Eg (C3 (DD (DK deep - 1)))):=jA fun h=>by
 rw [mq h]
 have:=mr deep
 exact dU (by omega) (UR _ (by omega))
end
section
variable {st0 st:St} {b d:Nat} {s:Ae} {rows:List (AO×List Nd)} {K:AM→St→Prop}
attribute [local irreducible] Go.Aw.Ai
theorem fu {U:Rd Nd} (ho:Bh enc 240 (fun b=>[pv b d]) U):Bh enc 130 (fun b=>[pv b d]) (Pv U):=by
 refine ⟨fun {st0 b s st rows K} hc h=>?_⟩
 simp only [Pv,Rd.wp_seq,Rd.wp_ret] at h
 refine Aa Ac [] Tryz.func130 rfl (by decide) ?_
 repeat' ((conv=>whnf);first|(refine BQ ?_;intros)|(refine BR ?_ ?_<;>intro e h)|(refine BS ?_ ?_<;>intro _)|exact E2|refine IY ?_|refine Al (fun e1=>?_)|refine n7.go (fS ho) hc h (fun n own1 s1 st1 hr hm hc h=>?_) (fun e s1 st1 hc h=>?_))
theorem gA {A:Ae→Rs} {U:∀s v s',A s=.inr (v,s')→mu s'≤mu s} (hB:EJ A) (hc:Cx st0 b s st rows) (h:Rd.wp (Qg A U) s (fun v s'=>∀st',Cx st0 b s' st' rows→K (.ret (enc v)) st') (fun e s'=>∀st',Cy st0 b s' st' rows→K (.Cg (fault e.1)) st')):Fu st b K (A s):=by
 cases hq:A s with
 |inl p=>
  obtain ⟨e,s'⟩:=p
  unfold Rd.wp at h
  rw [Js hB hq] at h
  exact fun st' hu=>h st' (hc.pA hu)
 |inr p=>
  obtain ⟨n,s'⟩:=p
  unfold Rd.wp at h
  rw [It hq] at h
  exact fun st' hu=>h st' (hc.PZ hu (U _ _ _ hq))
theorem jL {g:FuncId} {A:Rd Nd} (hd:d≤1000000) (h0:d=0→A=.fail Hu) (hc:Cx st0 b s st rows)
 (h:Rd.wp A s (fun v s'=>∀st',Cx st0 b s' st' rows→K (.ret (enc v)) st') (fun e s'=>∀st',Cy st0 b s' st' rows→K (.Cg (fault e.1)) st'))
 (hg:d≠0→∀K:AM→St→Prop,Rd.wp A s (fun v s'=>∀st',Cx st0 b s' st' rows→K (.ret (enc v)) st') (fun e s'=>∀st',Cy st0 b s' st' rows→K (.Cg (fault e.1)) st')→PC g [pv b d] st K):
 PC 120 [pv b (d+1),.func g [] []] st K:=by
 refine Aa Ac [] Tryz.func120 rfl (by decide) ?_
 by_cases hz:d=0
 ·have U:((d+1:Nat):Int)<2:=by omega
  rw [h0 hz,Rd.Ea] at h
  repeat' ((conv=>whnf);first|(refine BQ ?_;intros)|(refine BR ?_ ?_<;>intro e h)|(refine BS ?_ ?_<;>intro _)|refine EM ?_|exact C4 hc.y h)
 ·have U:¬((d+1:Nat):Int)<2:=by omega
  repeat' ((conv=>whnf);first|refine QW hd ?_|(refine BQ ?_;intros)|(refine BR ?_ ?_<;>intro e h)|(refine BS ?_ ?_<;>intro _)|refine hg hz _ (Rd.wp_mono h (fun v s1 hr h st1 hc=>?_) (fun e s1 hr h st1 hc=>?_))|refine EM ?_|exact E2|refine Al (fun e1=>?_))
theorem NG {g:FuncId} {c:Nat} {A:Rd Nd} (hd:d≤1000000) (h0:d=0→A=.fail Hu) (hc:Cx st0 b s st rows)
 (h:Rd.wp A s (fun v s'=>∀st',Cx st0 b s' st' rows→K (.ret (enc v)) st') (fun e s'=>∀st',Cy st0 b s' st' rows→K (.Cg (fault e.1)) st'))
 (hg:d≠0→∀K:AM→St→Prop,Rd.wp A s (fun v s'=>∀st',Cx st0 b s' st' rows→K (.ret (enc v)) st') (fun e s'=>∀st',Cy st0 b s' st' rows→K (.Cg (fault e.1)) st')→PC g [pv b d,.ptr c 0] st K):
 PC 120 [pv b (d+1),.func g [] [.ptr c 0]] st K:=by
 refine Aa Ac [] Tryz.func120 rfl (by decide) ?_
 by_cases hz:d=0
 ·have U:((d+1:Nat):Int)<2:=by omega
  rw [h0 hz,Rd.Ea] at h
  repeat' ((conv=>whnf);first|(refine BQ ?_;intros)|(refine BR ?_ ?_<;>intro e h)|(refine BS ?_ ?_<;>intro _)|refine EM ?_|exact C4 hc.y h)
 ·have U:¬((d+1:Nat):Int)<2:=by omega
  repeat' ((conv=>whnf);first|refine QW hd ?_|(refine BQ ?_;intros)|(refine BR ?_ ?_<;>intro e h)|(refine BS ?_ ?_<;>intro _)|refine hg hz _ (Rd.wp_mono h (fun v s1 hr h st1 hc=>?_) (fun e s1 hr h st1 hc=>?_))|refine EM ?_|exact E2|refine Al (fun e1=>?_))
theorem DB {g:FuncId} {A:Rd Nd} (hd:d≤1000000) (U:d=0→A=.fail Hu) (hg:d≠0→Bh enc g (fun b=>[pv b d]) A):Bh enc 120 (fun b=>[pv b (d+1),.func g [] []]) A:=by
 refine ⟨fun {st0 b s st rows K} hc h=>?_⟩
 exact jL hd U hc h fun hz K h=>(hg hz).ap hc h
end
section
variable {st0 st:St} {b d:Nat} {s:Ae} {rows:List (AO×List Nd)} {K:AM→St→Prop}
attribute [local irreducible] Go.Aw.Ai
theorem VN (U:d+1≤100):E4 14 ((d+1:Nat):Int) (Eg (C3 (DD (d+1 - 1)))):=by
 have:=ow (deep:=((d+1:Nat):Int))
 have e:DK ((d+1:Nat):Int) - 1=d+1 - 1:=by unfold DK;split<;>omega
 rw [e] at this;exact this
theorem X9 (hd:d+1≤100):Bh enc 203 (fun b=>[pv b (d+1)]) (Ee (d+1)):=by
 refine ⟨fun {st0 b s st rows K} hc h=>?_⟩
 have hB:EJ (Eg (C3 (DD (d+1 - 1)))):=Qv (LY (Hq _))
 have hi:∀{K:AM→St→Prop},Rd.wp (Ee (d+1)) s (fun v s'=>∀st',Cx st0 b s' st' rows→K (.ret (enc v)) st') (fun e s'=>∀st',Cy st0 b s' st' rows→K (.Cg (fault e.1)) st')→
  PC 254 [.ptr b 0,.func 14 [] [],.int .i64 ((d+1:Nat):Int)] st K:=fun h=>
  RN (d:=d+1) rfl (VN hd) (fun e=>by omega) hB hc.mu hc.has (gA hB hc h)
 refine Aa Ac [] Tryz.func203 rfl (by decide) ?_
 repeat' ((conv=>whnf);first|(refine BQ ?_;intros)|(refine BR ?_ ?_<;>intro e h)|(refine BS ?_ ?_<;>intro _)|refine hi (Rd.wp_mono h (fun v s1 hr h U hc=>?_) (fun e s1 hr h U hc=>?_))|exact E2|refine Al (fun e1=>?_))
theorem US {full:Rd Nd} {n:Nd} (hf:Bh enc 203 (fun b=>[pv b d]) full):Bh enc 147 (fun b=>[pv b d,enc n]) (Gc full n):=by
 refine ⟨fun {st0 b s st rows K} hc h=>?_⟩
 simp only [Gc,Rd.Ao,Rd.AV,Rd.wp_seq,Rd.wp_ret] at h
 refine Aa Ac [] Tryz.func147 rfl (by decide) ?_
 repeat' ((conv=>whnf);first|exact FR|(refine BQ ?_;intros)|(refine FT ?_ ?_ ?_;rotate_left)|(refine BR ?_ ?_<;>intro e h)|(refine BS ?_ ?_<;>intro _)|(refine G5 ?_;intro U hc)|(refine Kv ?_ ?_<;>intro U hc e h)|(refine JH ?_;intro s1 U hz hm hc h)|refine HX (fun n s1 U hr hm hc h=>?_) (fun e s1 U hc h=>?_)|exact E2|refine IY ?_|refine Al (fun e1=>?_)|refine Bh.go hf hc h (fun n s1 U hr hm hc h=>?_) (fun e s1 U hc h=>?_)|refine Ar [(0,true),(1,true),(2,true),(4,true),(3,false),(5,false),(6,true),(7,false),(8,false)] [2] (by decide +kernel) ?_|with_reducible refine WF ?_)
theorem mG {opd full:Rd Nd} (ho:Bh enc 240 (fun b=>[pv b d]) opd) (hf:Bh enc 203 (fun b=>[pv b d]) full):Bh enc 80 (fun b=>[pv b d]) (Tx opd full):=by
 refine ⟨fun {st0 b s st rows K} hc h=>?_⟩
 simp only [Tx,Rd.wp_seq] at h
 refine Aa Ac [] Tryz.func80 rfl (by decide) ?_
 repeat' ((conv=>whnf);first|exact FR|(refine BQ ?_;intros)|(refine FT ?_ ?_ ?_;rotate_left)|(refine BR ?_ ?_<;>intro e h)|(refine BS ?_ ?_<;>intro _)|exact E2|refine Al (fun e1=>?_)|refine Bh.go (fu ho) hc h (fun n s1 U hr hm hc h=>?_) (fun e s1 U hc h=>?_)|refine Bh.go (US hf) hc h (fun n s1 U hr hm hc h=>?_) (fun e s1 U hc h=>?_)|refine Ar [(0,true),(1,true),(2,false),(3,false),(4,false)] [1] (by decide +kernel) ?_|with_reducible refine WF ?_)
theorem TY {L:Eo} {lt bl:Nd} (he:Bh enc 120 (fun b=>[pv b d,.func 80 [] []]) L.exp):Bh enc 122 (fun b=>[pv b d,enc lt,enc bl]) (Io L lt bl):=by
 refine ⟨fun {st0 b s st rows K} hc h=>?_⟩
 simp only [Io,Rd.wp_seq,Rd.wp_ret] at h
 refine Aa Ac [] Tryz.func122 rfl (by decide) ?_
 repeat' ((conv=>whnf);first|exact FR|(refine BQ ?_;intros)|(refine FT ?_ ?_ ?_;rotate_left)|(refine BR ?_ ?_<;>intro e h)|(refine BS ?_ ?_<;>intro _)|refine HX (fun n s1 U hr hm hc h=>?_) (fun e s1 U hc h=>?_)|exact E2|refine IY ?_|refine Al (fun e1=>?_)|refine Bh.go he hc h (fun n s1 U hr hm hc h=>?_) (fun e s1 U hc h=>?_)|refine Ar [(0,true),(1,true),(2,true),(3,true),(4,false),(5,true),(6,false),(7,false)] [3] (by decide +kernel) ?_|with_reducible refine WF ?_)
theorem YB {L:Eo} {w:List UInt8} (he:Bh enc 120 (fun b=>[pv b d,.func 80 [] []]) L.exp):lr 335 (fun b v=>[pv b d,v,.str w]) (fun l=>Jt L l w):=by
 refine ⟨fun {st0 b s st rows K own l} hl hc h=>?_⟩
 simp only [Jt,Uy,Rd.Ao,Rd.AV,Rd.wp_seq,Rd.wp_ret] at h
 refine Aa Ac [] Tryz.func335 rfl (by decide) ?_
 have hmu:=hc.mu
 rcases hc.has with hs|⟨t,u,o1,o2,e0,hs⟩
 ·skip
  repeat' ((conv=>whnf);first|(refine BQ ?_;intros)|(refine BR ?_ ?_<;>intro e h)|(refine BS ?_ ?_<;>intro _)|refine Y5 (fun _=>?_) ?_|refine At hs ?_|(refine G5 ?_;intro U hc)|(refine Kv ?_ ?_<;>intro U hc e h)|refine HX (fun n s1 U hr hm hc h=>?_) (fun e s1 U hc h=>?_)|exact E2|(refine Kf ?_;intro own1 U hc)|refine Al (fun e1=>?_)|refine Sw ?_|refine YV hc h (NX (by assumption)) (fun s1 U hm hc h=>?_)|refine Lg hc hmu (fun U hc=>?_)|refine Bh.go he hc h (fun n s1 U hr hm hc h=>?_) (fun e s1 U hc h=>?_))
 ·skip
  repeat' ((conv=>whnf);first|(refine BQ ?_;intros)|(refine BR ?_ ?_<;>intro e h)|(refine BS ?_ ?_<;>intro _)|refine Y5 (fun _=>?_) ?_|refine At hs ?_|(refine G5 ?_;intro U hc)|(refine Kv ?_ ?_<;>intro U hc e h)|refine HX (fun n s1 U hr hm hc h=>?_) (fun e s1 U hc h=>?_)|exact E2|(refine Kf ?_;intro own1 U hc)|refine Al (fun e1=>?_)|refine Sw ?_|refine YV hc h (NX (by assumption)) (fun s1 U hm hc h=>?_)|refine Lg hc hmu (fun U hc=>?_)|refine Bh.go he hc h (fun n s1 U hr hm hc h=>?_) (fun e s1 U hc h=>?_))
theorem JS {g p:FuncId} {A:Rd Nd} {may:Nd→Bool} (hg:Bh enc g (fun b=>[pv b d]) A) (hp:∀{s s' n} {st:St} {K:AM→St→Prop},A.run s=.inr (n,s')→mu s≤100000000→K (.ret (.bool (may n))) st→PC p [enc n] st K):
 Bh enc 196 (fun b=>[pv b d,.func g [] [],.func p [] []]) (Cz A may):=by
 refine ⟨fun {st0 b s st rows K} hc h=>?_⟩
 simp only [Cz,Rd.Ao,Rd.AV,Rd.wp_seq,Rd.wp_ret,Rd.Mx] at h
 refine Aa Ac [] Tryz.func196 rfl (by decide) ?_
 have hmu:=hc.mu
 rcases hc.has with hs|⟨t,u,o1,o2,e0,hs⟩
 ·skip
  repeat' ((conv=>whnf);first|(refine BQ ?_;intros)|(refine BR ?_ ?_<;>intro e h)|(refine BS ?_ ?_<;>intro _)|refine At hs ?_|refine EM ?_|exact E2|refine Al (fun e1=>?_)|refine Lg hc hmu (fun U hc=>?_)|refine Bh.go hg hc h (fun n s1 U hr hm hc h=>?_) (fun e s1 U hc h=>?_)|refine hp hr hmu ?_)
 ·skip
  repeat' ((conv=>whnf);first|(refine BQ ?_;intros)|(refine BR ?_ ?_<;>intro e h)|(refine BS ?_ ?_<;>intro _)|refine At hs ?_|refine EM ?_|exact E2|refine Al (fun e1=>?_)|refine Lg hc hmu (fun U hc=>?_)|refine Bh.go hg hc h (fun n s1 U hr hm hc h=>?_) (fun e s1 U hc h=>?_)|refine hp hr hmu ?_)
end
structure Ku (D:Nat) (L:Eo):Prop where
 atom:Bh enc 120 (fun b=>[pv b D,.func 202 [] []]) L.atom
 exp:Bh enc 120 (fun b=>[pv b D,.func 80 [] []]) L.exp
 ops:Bh enc 120 (fun b=>[pv b D,.func 130 [] []]) L.ops
 decls:Bh enc 120 (fun b=>[pv b D,.func 56 [] []]) L.decls
 stmts:Bh enc 120 (fun b=>[pv b D,.func 78 [] []]) L.stmts
 alts:Bh enc 120 (fun b=>[pv b D,.func 79 [] []]) L.alts
 Dz:∀{o:Nd} {c:Nat} {st0:St} {b:Nat} {s:Ae} {st:St} {rows:List (AO×List Nd)} {K:AM→St→Prop},st.box c=some (A3 o)→Cx st0 b s st rows→
  Rd.wp (L.Dz o) s (fun v s'=>∀st',Cx st0 b s' st' rows→K (.ret (enc v)) st') (fun e s'=>∀st',Cy st0 b s' st' rows→K (.Cg (fault e.1)) st')→PC 120 [pv b D,.func 339 [] [.ptr c 0]] st K
 list:∀{o:Nd} {c:Nat} {st0:St} {b:Nat} {s:Ae} {st:St} {rows:List (AO×List Nd)} {K:AM→St→Prop},st.box c=some (A3 o)→Cx st0 b s st rows→
  Rd.wp (L.list o) s (fun v s'=>∀st',Cx st0 b s' st' rows→K (.ret (enc v)) st') (fun e s'=>∀st',Cy st0 b s' st' rows→K (.Cg (fault e.1)) st')→PC 120 [pv b D,.func 341 [] [.ptr c 0]] st K
theorem oF {n:Nd} (h:n.kids.length=0):Il n=true:=by
 unfold Il;rw [List.length_eq_zero_iff.1 h];rfl
theorem Yj {n x:Nd} (h:n.kids[((n.kids.length:Nat) - 1:Int).toNat]? =some x):n.kids.getLast? =some x:=by
 rw [List.getLast?_eq_getElem?,←h];congr 1;omega
theorem oG {n x:Nd} (h:n.kids[((n.kids.length:Nat) - 1:Int).toNat]? =some x) (k:x.kind=32∨x.kind=33):Il n=true:=by
 unfold Il;rw [Yj h];simpa using k
theorem oH {n x:Nd} (h:n.kids[((n.kids.length:Nat) - 1:Int).toNat]? =some x) (k:¬x.kind=32) (U:¬x.kind=33):¬Il n=true:=by
 unfold Il;rw [Yj h];simp [k,U]
theorem BG {α β:Type} {m:Rd α} {k:α→Rd β} {s s':Ae} {v:β} (h:(Rd.seq m k).run s=.inr (v,s')):∃a s1,m.run s=.inr (a,s1)∧(k a).run s1=.inr (v,s'):=by
 unfold Rd.seq at h
 dsimp only at h
 split at h
 ·cases h
 ·exact ⟨_,_,‹_›,h⟩
theorem fv {L:Eo} {a b:Nd} {l:List Nd} {w:List UInt8} {s s':Ae} {n:Nat} (h:(Jt L [a,b] w).run s=.inr (l,s')) (U:n≤100000000):l.length≤90000000:=by
 unfold Jt at h
 obtain ⟨_,_,_,h⟩:=BG h
 obtain ⟨_,_,_,h⟩:=BG h
 obtain ⟨_,_,_,h⟩:=BG h
 cases h
 exact Nat.le_of_ble_eq_true rfl
section
variable {st0 st:St} {b d:Nat} {s:Ae} {rows:List (AO×List Nd)} {K:AM→St→Prop} {L:Eo} {atom:Rd Nd}
attribute [local irreducible] Go.Aw.Ai
theorem Zq (hL:Ku d L):Bh enc 292 (fun b=>[pv b d]) (Gf L):=by
 refine ⟨fun {st0 b s st rows K} hc h=>?_⟩
 simp only [Gf,Rd.wp_seq,Rd.wp_ret] at h
 have hmu:=hc.mu
 refine Aa Ac [] Tryz.func292 rfl (by decide) ?_
 repeat' ((conv=>whnf);first|exact FR|(refine BQ ?_;intros)|(refine FT ?_ ?_ ?_;rotate_left)|(refine BR ?_ ?_<;>intro e h)|(refine BS ?_ ?_<;>intro _)|(refine JH ?_;intro s1 U hz hm hc h)|refine HX (fun n s1 U hr hm hc h=>?_) (fun e s1 U hc h=>?_)|exact E2|refine IY ?_|refine Al (fun e1=>?_)|refine Bh.go hL.exp hc h (fun n s1 U hr hm hc h=>?_) (fun e s1 U hc h=>?_)|refine lr.go (l:=[_,_]) (YB hL.exp) (Nat.le_of_ble_eq_true rfl) (hc.push _) h (fun l own1 s1 U hr hm hc h=>?_) (fun e s1 U hc h=>?_)|refine lr.go (YB hL.exp) (fv hr hmu) hc h (fun l own1 s1 U hr hm hc h=>?_) (fun e s1 U hc h=>?_)|refine Ar [(0,true),(1,true),(3,true),(2,false),(4,false),(5,true),(6,true)] [] (by decide +kernel) ?_|refine Ar [(0,true),(1,true),(2,true),(3,false),(4,false),(5,false),(6,false)] [1] (by decide +kernel) ?_|with_reducible refine WF ?_)
theorem gw (hL:Ku d L):Bh enc 293 (fun b=>[pv b d]) (ID L):=by
 refine ⟨fun {st0 b s st rows K} hc h=>?_⟩
 simp only [ID,Rd.wp_seq,Rd.wp_ret,Rd.AV,Rd.Ea] at h
 refine Aa Ac [] Tryz.func293 rfl (by decide) ?_
 repeat' ((conv=>whnf);first|(refine BQ ?_;intros)|(refine BR ?_ ?_<;>intro e h)|(refine BS ?_ ?_<;>intro _)|(refine JH ?_;intro s1 U hz hm hc h)|refine HX (fun n s1 U hr hm hc h=>?_) (fun e s1 U hc h=>?_)|refine EM ?_|exact E2|refine IY ?_|refine Ew (fun _=>?_)|refine Al (fun e1=>?_)|refine Bh.go hL.stmts hc h (fun n s1 U hr hm hc h=>?_) (fun e s1 U hc h=>?_))
 all_goals conv=>whnf
 all_goals first
  |(rw [if_pos (oF (by omega))] at h;exact C4 hc.y h)
  |(rw [if_pos (oG (by assumption) (by omega))] at h;exact C4 hc.y h)
  |(rw [if_neg (oH (by assumption) (by omega) (by omega))] at h;exact Eu hc h rfl)
end
section
variable {st0 st:St} {b d:Nat} {s:Ae} {rows:List (AO×List Nd)} {K:AM→St→Prop} {L:Eo} {atom:Rd Nd}
attribute [local irreducible] Go.Aw.Ai
theorem dN (U:Bh enc 202 (fun b=>[pv b d]) atom):Bh enc 196 (fun b=>[pv b d,.func 202 [] [],.func 124 [] []]) (Cz atom Kn):=
 JS U fun _ _ k=>RO k
theorem RE {A:Rd Nd} {p:Nd→Bool} (h:Rd.A6 A):Rd.A6 (Cz A p):=Rd.A6.look fun s v s' e=>Rd.A6.at (h _) e
theorem Z3 (hL:Ku d L) (ha:Bh enc 202 (fun b=>[pv b d]) atom) (hF:Rd.A6 atom):Bh enc 291 (fun b=>[pv b d]) (Gj L atom):=by
 refine ⟨fun {st0 b s st rows K} hc h=>?_⟩
 simp only [Gj,Rd.wp_seq,Rd.wp_ret] at h
 refine Aa Ac [] Tryz.func291 rfl (by decide) ?_
 have hmu:=hc.mu
 repeat' ((conv=>whnf);first|(refine BQ ?_;intros)|(refine BR ?_ ?_<;>intro e h)|(refine BS ?_ ?_<;>intro _)|(refine G5 ?_;intro U hc)|(refine JH ?_;intro s1 U hz hm hc h)|refine HX (fun n s1 U hr hm hc h=>?_) (fun e s1 U hc h=>?_)|exact E2|refine IY ?_|(refine Kf ?_;intro own1 U hc)|refine Ew (fun _=>?_)|refine Al (fun e1=>?_))
 refine CM (fun l own=>[(3,.slice 6 (l.map A3) own)]) (fun _ _=>[]) [1,2] [0,1] (fun l own=>(own,l)::rows) (fun l=>l.length) .full (hc.push _) h (by show 1+_≤_;omega) Yl ?_
 intro l s1 U own1 hc h hl hm1
 simp only [NH,GZ,Rd.Ao,Rd.AV,Rd.wp_seq,Rd.wp_ret,Rd.BB] at h
 repeat' ((conv=>whnf);first|(refine BQ ?_;intros)|(refine BR ?_ ?_<;>intro e h)|(refine BS ?_ ?_<;>intro _)|(refine G5 ?_;intro U hc)|(refine JH ?_;intro s1 U hz hm hc h)|refine HX (fun n s1 U hr hm hc h=>?_) (fun e s1 U hc h=>?_)|exact E2|refine IY ?_|(refine Kf ?_;intro own1 U hc)|refine Ew (fun _=>?_)|refine Al (fun e1=>?_)|refine Bh.mM (dN ha) (RE hF) hc h (fun n s1 U hr hm hc h=>?_) (fun e s1 U hc h=>?_)|refine Bh.go hL.exp hc h (fun n s1 U hr hm hc h=>?_) (fun e s1 U hc h=>?_))
theorem WT (hL:Ku d L) (ha:Bh enc 202 (fun b=>[pv b d]) atom) (hF:Rd.A6 atom):Bh enc 240 (fun b=>[pv b d]) (Df L atom):=by
 refine ⟨fun {st0 b s st rows K} hc h=>?_⟩
 simp only [Df,F6,TS,MD,Rd.Ao,Rd.AV,Rd.wp_seq,Rd.wp_ret] at h
 refine Aa Ac [] Tryz.func240 rfl (by decide) ?_
 have hmu:=hc.mu
 repeat' ((conv=>whnf);first|exact FR|(refine BQ ?_;intros)|(refine FT ?_ ?_ ?_;rotate_left)|(refine BR ?_ ?_<;>intro e h)|(refine BS ?_ ?_<;>intro _)|(refine G5 ?_;intro U hc)|(refine JH ?_;intro s1 U hz hm hc h)|refine HX (fun n s1 U hr hm hc h=>?_) (fun e s1 U hc h=>?_)|exact E2|refine IY ?_|(refine Kf ?_;intro own1 U hc)|refine Al (fun e1=>?_)|refine Bh.go (Z3 hL ha hF) hc h (fun n s1 U hr hm hc h=>?_) (fun e s1 U hc h=>?_)|refine Bh.go (Zq hL) hc h (fun n s1 U hr hm hc h=>?_) (fun e s1 U hc h=>?_)|refine Bh.go (gw hL) hc h (fun n s1 U hr hm hc h=>?_) (fun e s1 U hc h=>?_)|refine Bh.go hL.decls hc h (fun n s1 U hr hm hc h=>?_) (fun e s1 U hc h=>?_)|refine Bh.go (TY hL.exp) hc h (fun n s1 U hr hm hc h=>?_) (fun e s1 U hc h=>?_)|refine Bh.go hL.exp hc h (fun n s1 U hr hm hc h=>?_) (fun e s1 U hc h=>?_)|refine Bh.go hL.alts hc h (fun n s1 U hr hm hc h=>?_) (fun e s1 U hc h=>?_)|refine Bh.go ha hc h (fun n s1 U hr hm hc h=>?_) (fun e s1 U hc h=>?_)|refine Cx.KT (l:=[_,_,_]) (hc.push _) (Nat.le_of_ble_eq_true rfl) (fun own1 U hc=>?_)|refine Ar [(0,true),(1,true),(2,true),(4,true),(3,false),(5,false),(6,false),(7,false)] [1] (by decide +kernel) ?_|refine Ar [(0,true),(1,true),(3,true),(5,true),(6,true),(2,false),(4,false),(7,false),(8,true),(9,true)] [] (by decide +kernel) ?_|with_reducible refine WF ?_)
 all_goals refine CM (fun l own=>[(5,.slice 6 (l.map A3) own)]) (fun _ _=>[]) [1,2] [0,1] (fun l own=>(own,l)::rows) (fun l=>l.length) .full (hc.push _) h (by show 1+_≤_;omega) Yl ?_
 all_goals intro l s1 U own1 hc h hl hm1
 all_goals simp only [Ri,Rd.Ao,Rd.AV,Rd.wp_seq,Rd.wp_ret,Rd.BB] at h
 all_goals (repeat' ((conv=>whnf);first|exact FR|(refine BQ ?_;intros)|(refine FT ?_ ?_ ?_;rotate_left)|(refine BR ?_ ?_<;>intro e h)|(refine BS ?_ ?_<;>intro _)|(refine G5 ?_;intro U hc)|(refine JH ?_;intro s1 U hz hm hc h)|refine HX (fun n s1 U hr hm hc h=>?_) (fun e s1 U hc h=>?_)|exact E2|refine IY ?_|(refine Kf ?_;intro own1 U hc)|refine Al (fun e1=>?_)|refine Bh.mM ha hF hc h (fun n s1 U hr hm hc h=>?_) (fun e s1 U hc h=>?_)|with_reducible refine WF ?_))
end
section
variable {st0 st:St} {b d:Nat} {s:Ae} {rows:List (AO×List Nd)} {K:AM→St→Prop} {L:Eo} {atom:Rd Nd}
attribute [local irreducible] Go.Aw.Ai
theorem nf {o:Nd} {P:Prop} {Q:Nd→Ae→Prop} {E:Er→Ae→Prop} (hc:Cx st0 b s st rows)
 (h:if IE (Ad s).1=true then (if Ba (Ad s).2.1 15 [41]=true then Rd.wp A7 s (fun p s'=>Rd.wp A7 s' (fun c s'=>Q (AD 3 [o,p,c]) s') E) E else P) else P)
 (k1:∀n s' st',mu s'≤mu s→Cx st0 b s' st' rows→Q n s'→K (.ret (.Bo [enc n,.bool true])) st') (k2:∀st',Cx st0 b s st' rows→P→K (.ret (.Bo [enc MS,.bool false])) st'):
 PC 338 [pv b d,enc o] st K:=by
 refine Aa Ac [] Tryz.func338 rfl (by decide) ?_
 have hmu:=hc.mu
 have hc1:=hc.look
 cases hy:IE (Ad s).1 with
 |false=>
  rw [if_neg (by rw [hy];decide)] at h
  repeat' ((conv=>whnf);first|exact FR|(refine BQ ?_;intros)|(refine FT ?_ ?_ ?_;rotate_left)|(refine BR ?_ ?_<;>intro e h)|(refine BS ?_ ?_<;>intro _)|refine Sn hc (fun U hc=>?_)|refine HT ?_|with_reducible refine WF ?_)
  all_goals exact B8 rfl (k2 U hc h)
 |true=>
  rw [if_pos hy] at h
  have hkd:=KJ hy
  cases hi:Ba (Ad s).2.1 15 [41] with
  |true=>
   rw [if_pos hi] at h
   repeat' ((conv=>whnf);first|exact FR|(refine BQ ?_;intros)|(refine FT ?_ ?_ ?_;rotate_left)|(refine BR ?_ ?_<;>intro e h)|(refine BS ?_ ?_<;>intro _)|refine At (St.Ah ..) ?_|refine Ga hc.has hc.hb ?_|refine HT ?_|refine N2 hc1 h hkd (fun s1 U hz hm hc h=>?_)|refine Sq hc (hz ▸ hi) (fun U hc=>?_)|refine N1 hc h (hz ▸ hi) (by decide) (fun s2 st2 hz2 hm2 hc h=>?_)|refine Sc ?_|refine Ar [(0,true),(1,true),(2,true),(3,true),(4,false),(5,true),(6,false),(7,false),(8,true)] [2] (by decide +kernel) ?_|with_reducible refine WF ?_)
   all_goals exact B8 rfl (k1 _ s2 st2 (by omega) hc h)
  |false=>
   rw [if_neg (by rw [hi];decide)] at h
   repeat' ((conv=>whnf);first|exact FR|(refine BQ ?_;intros)|(refine FT ?_ ?_ ?_;rotate_left)|(refine BR ?_ ?_<;>intro e h)|(refine BS ?_ ?_<;>intro _)|refine At (St.Ah ..) ?_|refine Ga hc.has hc.hb ?_|refine HT ?_|refine nQ hc1 hkd (fun s1 U hz hm hc=>?_)|refine WX hc (hz ▸ hi) (fun U hc=>?_)|refine Lg hc hmu (fun st2 hc=>?_)|with_reducible refine WF ?_)
   all_goals exact B8 rfl (k2 st2 hc h)
theorem fL (hL:Ku d L):Bh enc 302 (fun b=>[pv b d]) (GK L):=by
 refine ⟨fun {st0 b s st rows K} hc h=>?_⟩
 simp only [GK,QL,Hk,Fi,Rd.Ao,Rd.AV,Rd.wp_seq,Rd.wp_ret] at h
 refine BF Ac [] Tryz.func302 rfl (by decide) rfl ?_
 have hmu:=hc.mu
 refine Au (As Ac ?_)
 repeat' ((conv=>whnf);first|exact FR|(refine BQ ?_;intros)|(refine FT ?_ ?_ ?_;rotate_left)|(refine BR ?_ ?_<;>intro e h)|(refine BS ?_ ?_<;>intro _)|with_reducible refine WF ?_)
 refine Au (As Ac ?_)
 repeat' ((conv=>whnf);first|exact FR|(refine BQ ?_;intros)|(refine FT ?_ ?_ ?_;rotate_left)|(refine BR ?_ ?_<;>intro e h)|(refine BS ?_ ?_<;>intro _)|refine IF.go hc h (fun o s1 U hr hm hc h=>?_) (fun e s1 U hc h=>?_)|exact C4 hc h|with_reducible refine WF ?_)
 refine Au (As Ac ?_)
 repeat' ((conv=>whnf);first|exact FR|(refine BQ ?_;intros)|(refine FT ?_ ?_ ?_;rotate_left)|(refine BR ?_ ?_<;>intro e h)|(refine BS ?_ ?_<;>intro _)|(refine G5 ?_;intro U hc)|(refine Kv ?_ ?_<;>intro U hc e h)|(refine JH ?_;intro s1 U hz hm hc h)|refine HX (fun n s1 U hr hm hc h=>?_) (fun e s1 U hc h=>?_)|exact E2|refine IY ?_|(refine Kf ?_;intro own1 U hc)|refine Al (fun e1=>?_)|with_reducible refine WF ?_)
 all_goals first
  |(refine CM (fun l own=>[(4,.slice 6 (l.map A3) own)]) (fun _ _=>[]) [1,2] [0,1] (fun l own=>(own,l)::rows) (fun l=>l.length) .full (hc.push _) h (by show 1+_≤_;omega) Yl ?_
    intro l s1 U own1 hc h hl hm1
    simp only [Ny,Rd.Ao,Rd.AV,Rd.wp_seq,Rd.wp_ret,Rd.BB] at h
    repeat' ((conv=>whnf);first|exact FR|(refine BQ ?_;intros)|(refine FT ?_ ?_ ?_;rotate_left)|(refine BR ?_ ?_<;>intro e h)|(refine BS ?_ ?_<;>intro _)|(refine G5 ?_;intro U hc)|(refine Kv ?_ ?_<;>intro U hc e h)|(refine JH ?_;intro s1 U hz hm hc h)|refine HX (fun n s1 U hr hm hc h=>?_) (fun e s1 U hc h=>?_)|exact E2|refine IY ?_|(refine Kf ?_;intro own1 U hc)|refine Al (fun e1=>?_)|with_reducible refine WF ?_))
  |skip
 refine Au (As Ac ?_)
 repeat' ((conv=>whnf);first|exact FR|(refine BQ ?_;intros)|(refine FT ?_ ?_ ?_;rotate_left)|(refine BR ?_ ?_<;>intro e h)|(refine BS ?_ ?_<;>intro _)|refine nf (Q:=fun n s'=>∀st',Cx st0 b s' st' rows→K (.ret (enc n)) st') hc h (fun n s1 U hm hc h=>?_) (fun U hc h=>?_)|(refine G5 ?_;intro U hc)|(refine Kv ?_ ?_<;>intro U hc e h)|(refine JH ?_;intro s1 U hz hm hc h)|refine HX (fun n s1 U hr hm hc h=>?_) (fun e s1 U hc h=>?_)|exact E2|refine IY ?_|(refine Kf ?_;intro own1 U hc)|refine Al (fun e1=>?_)|with_reducible refine WF ?_)
 refine Au (As Ac ?_)
 repeat' ((conv=>whnf);first|exact FR|(refine BQ ?_;intros)|(refine FT ?_ ?_ ?_;rotate_left)|(refine BR ?_ ?_<;>intro e h)|(refine BS ?_ ?_<;>intro _)|(refine G5 ?_;intro U hc)|(refine Kv ?_ ?_<;>intro U hc e h)|(refine JH ?_;intro s1 U hz hm hc h)|refine HX (fun n s1 U hr hm hc h=>?_) (fun e s1 U hc h=>?_)|exact E2|refine IY ?_|(refine Kf ?_;intro own1 U hc)|refine Al (fun e1=>?_)|refine NP.go hc h (fun n s1 U hr hm hc h=>?_) (fun e s1 U hc h=>?_)|refine Bh.go hL.ops hc h (fun n s1 U hr hm hc h=>?_) (fun e s1 U hc h=>?_)|refine Ar [(0,true),(1,true),(2,true),(4,true),(5,true),(3,false),(6,false),(7,true),(8,false),(9,false)] [1] (by decide +kernel) ?_|with_reducible refine WF ?_)
 all_goals refine Rb 3 2 rfl rfl rfl (fun c fc=>?_)
 all_goals have hne:=hc.VM fc
 all_goals refine As Ac ?_
 all_goals (repeat' ((conv=>whnf);first|exact FR|(refine BQ ?_;intros)|(refine FT ?_ ?_ ?_;rotate_left)|(refine BR ?_ ?_<;>intro e h)|(refine BS ?_ ?_<;>intro _)|refine hL.Dz (St.Ah ..) (hc.YH fc) (Rd.wp_mono h (fun v s1 hr h U hc=>?_) (fun e s1 hr h U hc=>?_))|exact Eu (hc.unbox hne) h rfl|exact C4 (hc.unbox hne) h|with_reducible refine WF ?_))
end
section
variable {st0 st:St} {b d:Nat} {s:Ae} {rows:List (AO×List Nd)} {K:AM→St→Prop} {L:Eo} {atom:Rd Nd}
attribute [local irreducible] Go.Aw.Ai
theorem aX (hL:Ku d L):Bh enc 303 (fun b=>[pv b d]) (Gm L):=by
 refine ⟨fun {st0 b s st rows K} hc h=>?_⟩
 simp only [Gm,Rd.Ao,Rd.AV,Rd.wp_seq,Rd.wp_ret] at h
 refine BF Ac [] Tryz.func303 rfl (by decide) rfl ?_
 refine Au (As Ac ?_)
 repeat' ((conv=>whnf);first|exact FR|(refine BQ ?_;intros)|(refine FT ?_ ?_ ?_;rotate_left)|(refine BR ?_ ?_<;>intro e h)|(refine BS ?_ ?_<;>intro _)|with_reducible refine WF ?_)
 refine Au (As Ac ?_)
 repeat' ((conv=>whnf);first|exact FR|(refine BQ ?_;intros)|(refine FT ?_ ?_ ?_;rotate_left)|(refine BR ?_ ?_<;>intro e h)|(refine BS ?_ ?_<;>intro _)|refine IF.go hc h (fun o s1 U hr hm hc h=>?_) (fun e s1 U hc h=>?_)|exact C4 hc h|with_reducible refine WF ?_)
 refine Au (As Ac ?_)
 repeat' ((conv=>whnf);first|exact FR|(refine BQ ?_;intros)|(refine FT ?_ ?_ ?_;rotate_left)|(refine BR ?_ ?_<;>intro e h)|(refine BS ?_ ?_<;>intro _)|(refine G5 ?_;intro U hc)|(refine Kv ?_ ?_<;>intro U hc e h)|(refine JH ?_;intro s1 U hz hm hc h)|refine HX (fun n s1 U hr hm hc h=>?_) (fun e s1 U hc h=>?_)|exact E2|refine IY ?_|refine Al (fun e1=>?_)|refine Ar [(0,true),(1,true),(2,true),(3,false),(4,true),(5,false),(6,false)] [1] (by decide +kernel) ?_|with_reducible refine WF ?_)
 all_goals refine Rb 3 2 rfl rfl rfl (fun c fc=>?_)
 all_goals have hne:=hc.VM fc
 all_goals refine As Ac ?_
 all_goals (repeat' ((conv=>whnf);first|exact FR|(refine BQ ?_;intros)|(refine FT ?_ ?_ ?_;rotate_left)|(refine BR ?_ ?_<;>intro e h)|(refine BS ?_ ?_<;>intro _)|refine hL.list (St.Ah ..) (hc.YH fc) (Rd.wp_mono h (fun v s1 hr h U hc=>?_) (fun e s1 hr h U hc=>?_))|exact Eu (hc.unbox hne) h rfl|exact C4 (hc.unbox hne) h|with_reducible refine WF ?_))
theorem iq (hL:Ku d L):Bh enc 252 (fun b=>[pv b d]) (Gt L):=by
 refine ⟨fun {st0 b s st rows K} hc h=>?_⟩
 simp only [Gt,Rd.Ao,Rd.AV,Rd.wp_seq,Rd.wp_ret] at h
 refine Aa Ac [] Tryz.func252 rfl (by decide) ?_
 repeat' ((conv=>whnf);first|exact FR|(refine BQ ?_;intros)|(refine FT ?_ ?_ ?_;rotate_left)|(refine BR ?_ ?_<;>intro e h)|(refine BS ?_ ?_<;>intro _)|(refine G5 ?_;intro U hc)|(refine Kv ?_ ?_<;>intro U hc e h)|(refine JH ?_;intro s1 U hz hm hc h)|refine HX (fun n s1 U hr hm hc h=>?_) (fun e s1 U hc h=>?_)|(refine bQ ?_;intro e s1 U hc h)|exact E2|refine IY ?_|refine Al (fun e1=>?_)|refine Bh.go (fL hL) hc h (fun n s1 U hr hm hc h=>?_) (fun e s1 U hc h=>?_)|refine Bh.go (aX hL) hc h (fun n s1 U hr hm hc h=>?_) (fun e s1 U hc h=>?_)|refine Bh.go hL.atom hc h (fun n s1 U hr hm hc h=>?_) (fun e s1 U hc h=>?_)|refine Ar [(0,true),(1,true),(3,true),(2,false),(4,false),(5,true),(6,false),(7,false)] [1] (by decide +kernel) ?_|refine Ar [(0,true),(1,true),(2,true),(4,true),(3,false),(5,false),(6,true),(7,false),(8,false)] [1] (by decide +kernel) ?_|with_reducible refine WF ?_)
theorem ej:Bh enc 250 (fun b=>[.ptr b 0,.slice 1 [[.int .i64 1],[.int .i64 3]] .full]) (IL [1,3]):=Yi (ks:=[1,3]) (by decide)
theorem aH (hL:Ku d L) {n:Nd}:Bh enc 253 (fun b=>[pv b d,enc n]) (FO L n):=by
 refine ⟨fun {st0 b s st rows K} hc h=>?_⟩
 simp only [FO,Rd.Ao,Rd.AV,Rd.wp_seq,Rd.wp_ret] at h
 refine Aa Ac [] Tryz.func253 rfl (by decide) ?_
 have hmu:=hc.mu
 repeat' ((conv=>whnf);first|exact FR|(refine BQ ?_;intros)|(refine FT ?_ ?_ ?_;rotate_left)|(refine BR ?_ ?_<;>intro e h)|(refine BS ?_ ?_<;>intro _)|(refine G5 ?_;intro U hc)|(refine Kv ?_ ?_<;>intro U hc e h)|(refine JH ?_;intro s1 U hz hm hc h)|refine HX (fun n s1 U hr hm hc h=>?_) (fun e s1 U hc h=>?_)|exact E2|refine IY ?_|(refine Kf ?_;intro own1 U hc)|refine Ew (fun _=>?_)|refine Al (fun e1=>?_)|refine Ar [(0,true),(1,true),(2,true),(3,false),(4,true),(5,true)] [] (by decide +kernel) ?_|refine Ar [(0,true),(1,true),(2,true),(3,true),(5,true),(4,false),(6,false),(7,true),(8,false),(9,true),(10,false),(11,true)] [] (by decide +kernel) ?_|with_reducible refine WF ?_)
 refine CM (fun l own=>[(5,.slice 6 (l.map A3) own)]) (fun _ _=>[]) [2,4] [0,2] (fun l own=>(own,l)::rows) (fun l=>l.length) .full (hc.push _) h (by show 2+_≤_;omega) Yl ?_
 intro l s1 U own1 hc h hl hm1
 simp only [NS,Ji,Rd.Ao,Rd.AV,Rd.wp_seq,Rd.wp_ret,Rd.BB] at h
 repeat' ((conv=>whnf);first|exact FR|(refine BQ ?_;intros)|(refine FT ?_ ?_ ?_;rotate_left)|(refine BR ?_ ?_<;>intro e h)|(refine BS ?_ ?_<;>intro _)|(refine G5 ?_;intro U hc)|(refine Kv ?_ ?_<;>intro U hc e h)|(refine JH ?_;intro s1 U hz hm hc h)|refine HX (fun n s1 U hr hm hc h=>?_) (fun e s1 U hc h=>?_)|exact E2|refine IY ?_|(refine Kf ?_;intro own1 U hc)|refine Ew (fun _=>?_)|refine Al (fun e1=>?_)|refine Bh.mM ej (VF rfl) hc h (fun n s1 U hr hm hc h=>?_) (fun e s1 U hc h=>?_)|refine Bh.go hL.exp hc h (fun n s1 U hr hm hc h=>?_) (fun e s1 U hc h=>?_)|refine Ar [(0,true),(1,true),(2,true),(3,false),(4,true),(5,true)] [] (by decide +kernel) ?_|refine Ar [(0,true),(1,true),(2,true),(3,true),(5,true),(4,false),(6,false),(7,true),(8,false),(9,true),(10,false),(11,true)] [] (by decide +kernel) ?_|with_reducible refine WF ?_)
 all_goals conv=>whnf
end
theorem VD {L:Eo}:Rd.A6 (Gt L):=Rd.A6.look fun s v s' h=>by
 split at h
 ·rename_i ha
  have hk:=(JK ha).2
  have U:∀{v:Nd} {s':Ae},A7.run s=.inr (v,s')→mu s'<mu s:=fun e=>JD e hk
  split at h
  ·split at h
   ·exact Rd.A6.at (fun _ _ e=>U e) h
   ·exact Rd.A6.at (fun _ _ e=>U e) h
  ·split at h
   ·exact Rd.A6.at (fun _ _ e=>U e) h
   ·split at h
    ·exact Rd.A6.at (fun _ _ e=>U e) h
    ·exact Rd.A6.at (fun _ _ e=>U e) h
 ·cases h
theorem TA {L:Eo}:Rd.A6 (FU L):=Rd.A6.seq VD
theorem RF {L:Eo} {n:Nd} {s s':Ae} {v:Nd} (h:(FO L n).run s=.inr (v,s')) (e:Ba s 15 [123]=true):mu s'<mu s:=by
 refine Rd.A6.at (fun v s' U=>JD U fun z=>?_) h
 unfold Ba at e
 simp only [Bool.and_eq_true,beq_iff_eq] at e
 rw [z] at e;exact absurd e.1 (by decide)
theorem QY {stmt:Rd Nd} {l U:List Nd} {s s':Ae} (h:(Ek stmt l).run s=.inr (U,s')):U.length+4*mu s'≤l.length+2+4*mu s:=by
 unfold Ek at h
 obtain ⟨b,s1,h1,h⟩:=BG h
 obtain ⟨t,s2,h2,h⟩:=BG h
 have e1:=(Cd 10 [124]).le _ _ _ h1
 have e2:=stmt.le _ _ _ h2
 have:=Rd.eJ (body:=Jw stmt) (w:=List.length) (w':=List.length) (c:=0) (fun x s x' s' h=>by
  unfold Jw at h
  replace h:(if Ba s 15 [44]=true then Rd.seq A7 fun c=>Rd.seq stmt fun t=>.ret (.inl (x++[c]++[t])) else .ret (.inr x):Rd (Sum (List Nd) (List Nd))).run s=.inr (.inl x',s'):=h
  split at h
  ·obtain ⟨_,_,_,h⟩:=BG h
   obtain ⟨_,_,_,h⟩:=BG h
   cases h
   simp
  ·cases h) (fun x s y s' h=>by
  unfold Jw at h
  replace h:(if Ba s 15 [44]=true then Rd.seq A7 fun c=>Rd.seq stmt fun t=>.ret (.inl (x++[c]++[t])) else .ret (.inr x):Rd (Sum (List Nd) (List Nd))).run s=.inr (.inr y,s'):=h
  split at h
  ·obtain ⟨_,_,_,h⟩:=BG h
   obtain ⟨_,_,_,h⟩:=BG h
   cases h
  ·cases h;exact Nat.le_refl _) _ _ _ _ h
 simp only [List.length_append,List.length_cons,List.length_nil] at this
 omega
theorem oe {l:List Nd} {c x y:Nat} (h:l.length+4*y≤c+2+4*x) (hc:c≤500000000) (U:x≤100000000):l.length+1≤1000000000:=by omega
section
variable {st0 st:St} {b d:Nat} {s:Ae} {rows:List (AO×List Nd)} {K:AM→St→Prop} {L:Eo}
attribute [local irreducible] Go.Aw.Ai
theorem ij (hL:Ku d L):Bh enc 202 (fun b=>[pv b d]) (FU L):=by
 refine ⟨fun {st0 b s st rows K} hc h=>?_⟩
 simp only [FU,Rd.wp_seq] at h
 refine Aa Ac [] Tryz.func202 rfl (by decide) ?_
 have hmu:=hc.mu
 repeat' ((conv=>whnf);first|(refine BQ ?_;intros)|(refine BR ?_ ?_<;>intro e h)|(refine BS ?_ ?_<;>intro _)|refine Bh.go (iq hL) hc h (fun n s1 U hr hm hc h=>?_) (fun e s1 U hc h=>?_)|exact C4 hc h)
 refine CM (fun n own=>[]) (fun n own=>[(2,A3 n)]) [1,2,3] [0,1] (fun l own=>rows) (fun _=>0) .full hc h (by show 0+_≤_;omega) Yl ?_
 intro n s1 U own1 hc h hl hm1
 simp only [XE,Rd.Ao,Rd.AV,Rd.wp_seq,Rd.wp_ret,Rd.BB] at h
 repeat' ((conv=>whnf);first|(refine BQ ?_;intros)|(refine BR ?_ ?_<;>intro e h)|(refine BS ?_ ?_<;>intro _)|(refine G5 ?_;intro U hc)|(refine Kv ?_ ?_<;>intro U hc e h)|exact E2|refine Al (fun e1=>?_)|refine Bh.go (aH hL) hc h (fun n s1 U hr hm hc h=>?_) (fun e s1 U hc h=>?_))
 all_goals have hlt:=RF (by assumption) (by assumption)
 all_goals conv=>whnf
 all_goals exact ⟨⟨_,_,_,.full⟩,⟨hc,Rd.Ho h hlt,(by dsimp only;omega),(by dsimp only;omega)⟩,hlt,Yl,St.le_refl _⟩
theorem Uh {stmt:Rd Nd} (hs:Bh enc 60 (fun b=>[pv b d]) stmt):lr 192 (fun b v=>[pv b d,v]) (fun l=>Ek stmt l):=by
 refine ⟨fun {st0 b s st rows K own l} hl hc h=>?_⟩
 simp only [Ek,Rd.wp_seq] at h
 refine Aa Ac [] Tryz.func192 rfl (by decide) ?_
 have hmu:=hc.mu
 repeat' ((conv=>whnf);first|(refine BQ ?_;intros)|(refine BR ?_ ?_<;>intro e h)|(refine BS ?_ ?_<;>intro _)|refine Y5 (fun _=>?_) ?_|(refine G5 ?_;intro U hc)|(refine Kv ?_ ?_<;>intro U hc e h)|(refine JH ?_;intro s1 U hz hm hc h)|refine HX (fun n s1 U hr hm hc h=>?_) (fun e s1 U hc h=>?_)|exact E2|(refine Kf ?_;intro own1 U hc)|refine Al (fun e1=>?_)|refine Bh.go hs hc h (fun n s1 U hr hm hc h=>?_) (fun e s1 U hc h=>?_))
 refine CM (fun l own=>[(1,.slice 6 (l.map A3) own)]) (fun _ _=>[]) [2] [0] (fun l own=>(own,l)::rows) (fun l=>l.length) _ hc h (by simp only [List.length_append,List.length_cons,List.length_nil];omega) Yl ?_
 intro l s1 U own1 hc h hl hm1
 simp only [Jw,Rd.Ao,Rd.AV,Rd.wp_seq,Rd.wp_ret,Rd.BB] at h
 repeat' ((conv=>whnf);first|(refine BQ ?_;intros)|(refine BR ?_ ?_<;>intro e h)|(refine BS ?_ ?_<;>intro _)|refine Y5 (fun _=>?_) ?_|(refine G5 ?_;intro U hc)|(refine Kv ?_ ?_<;>intro U hc e h)|(refine JH ?_;intro s1 U hz hm hc h)|refine HX (fun n s1 U hr hm hc h=>?_) (fun e s1 U hc h=>?_)|exact E2|(refine Kf ?_;intro own1 U hc)|refine Al (fun e1=>?_)|refine Bh.go hs hc h (fun n s1 U hr hm hc h=>?_) (fun e s1 U hc h=>?_))
theorem jX {exp stmt:Rd Nd} {o:Nd} (he:Bh enc 80 (fun b=>[pv b d]) exp) (hs:Bh enc 60 (fun b=>[pv b d]) stmt):Bh enc 342 (fun b=>[pv b d,enc o]) (Lk exp stmt o):=by
 refine ⟨fun {st0 b s st rows K} hc h=>?_⟩
 simp only [Lk,Rd.Ao,Rd.AV,Rd.wp_seq,Rd.wp_ret] at h
 refine Aa Ac [] Tryz.func342 rfl (by decide) ?_
 have hmu:=hc.mu
 repeat' ((conv=>whnf);first|exact FR|(refine BQ ?_;intros)|(refine FT ?_ ?_ ?_;rotate_left)|(refine BR ?_ ?_<;>intro e h)|(refine BS ?_ ?_<;>intro _)|(refine G5 ?_;intro U hc)|(refine Kv ?_ ?_<;>intro U hc e h)|(refine JH ?_;intro s1 U hz hm hc h)|refine HX (fun n s1 U hr hm hc h=>?_) (fun e s1 U hc h=>?_)|exact E2|refine IY ?_|(refine Kf ?_;intro own1 U hc)|refine Ew (fun _=>?_)|refine Al (fun e1=>?_)|refine Bh.go he hc h (fun n s1 U hr hm hc h=>?_) (fun e s1 U hc h=>?_)|refine hc.KT (oe (QY (by assumption)) (Nat.le_of_ble_eq_true rfl) (by omega)) (fun own1 U hc=>?_)|refine lr.go (l:=[_,_]) (Uh hs) (Nat.le_of_ble_eq_true rfl) (hc.push _) h (fun l own1 s1 U hr hm hc h=>?_) (fun e s1 U hc h=>?_)|refine Ar [(0,true),(1,true),(2,false),(3,true),(4,true)] [] (by decide +kernel) ?_|refine Ar [(0,true),(1,true),(3,true),(4,true),(2,false),(5,false),(6,true),(7,false),(8,false),(9,false)] [2] (by decide +kernel) ?_|with_reducible refine WF ?_)
 refine CM (fun l own=>[(5,.slice 6 (l.map A3) own)]) (fun _ _=>[]) [2,4,6] [0,2] (fun l own=>(own,l)::rows) (fun l=>l.length) .full (hc.push _) h (by show 2+_≤_;omega) Yl ?_
 intro l s1 U own1 hc h hl hm1
 simp only [Yn,MQ,Rd.Ao,Rd.AV,Rd.wp_seq,Rd.wp_ret,Rd.BB] at h
 repeat' ((conv=>whnf);first|exact FR|(refine BQ ?_;intros)|(refine FT ?_ ?_ ?_;rotate_left)|(refine BR ?_ ?_<;>intro e h)|(refine BS ?_ ?_<;>intro _)|(refine G5 ?_;intro U hc)|(refine Kv ?_ ?_<;>intro U hc e h)|(refine JH ?_;intro s1 U hz hm hc h)|refine HX (fun n s1 U hr hm hc h=>?_) (fun e s1 U hc h=>?_)|exact E2|refine IY ?_|(refine Kf ?_;intro own1 U hc)|refine Ew (fun _=>?_)|refine Al (fun e1=>?_)|refine Bh.go he hc h (fun n s1 U hr hm hc h=>?_) (fun e s1 U hc h=>?_)|with_reducible refine WF ?_)
end
section
variable {st0 st:St} {b d:Nat} {s:Ae} {rows:List (AO×List Nd)} {K:AM→St→Prop} {L:Eo}
attribute [local irreducible] Go.Aw.Ai
theorem R6 (k:K (.Cg (fault OH.1)) st):PC 123 [pv b d,.bool false] st K:=by
 refine Aa Ac [] Tryz.func123 rfl (by decide) ?_
 repeat' ((conv=>whnf);first|(refine BQ ?_;intros)|(refine BR ?_ ?_<;>intro e h)|(refine BS ?_ ?_<;>intro _)|refine EM ?_)
 all_goals exact ⟨_,_,.inl rfl,St.le_refl _,k⟩
theorem R7 (k:K (.ret (.Bo [])) st):PC 123 [pv b d,.bool true] st K:=by
 refine Aa Ac [] Tryz.func123 rfl (by decide) ?_
 repeat' ((conv=>whnf);first|(refine BQ ?_;intros)|(refine BR ?_ ?_<;>intro e h)|(refine BS ?_ ?_<;>intro _)|refine EM ?_)
 all_goals exact ⟨_,_,.inl rfl,St.le_refl _,k⟩
theorem kT (hL:Ku d L) {exp:Rd Nd} (he:Bh enc 80 (fun b=>[pv b d]) exp):Bh enc 60 (fun b=>[pv b d]) (M5 L exp):=by
 refine ⟨fun {st0 b s st rows K} hc h=>?_⟩
 simp only [M5,MC,Rd.Ao,Rd.AV,Rd.wp_seq,Rd.wp_ret,Rd.Ea] at h
 refine Aa Ac [] Tryz.func60 rfl (by decide) ?_
 repeat' ((conv=>whnf);first|exact FR|(refine BQ ?_;intros)|(refine FT ?_ ?_ ?_;rotate_left)|(refine BR ?_ ?_<;>intro e h)|(refine BS ?_ ?_<;>intro _)|(refine G5 ?_;intro U hc)|(refine Kv ?_ ?_<;>intro U hc e h)|(refine JH ?_;intro s1 U hz hm hc h)|refine HX (fun n s1 U hr hm hc h=>?_) (fun e s1 U hc h=>?_)|exact E2|refine IY ?_|refine Al (fun e1=>?_)|refine Bh.go he hc h (fun n s1 U hr hm hc h=>?_) (fun e s1 U hc h=>?_)|refine Bh.go hL.decls hc h (fun n s1 U hr hm hc h=>?_) (fun e s1 U hc h=>?_)|refine Bh.go (TY hL.exp) hc h (fun n s1 U hr hm hc h=>?_) (fun e s1 U hc h=>?_)|refine RO ?_|refine R7 ?_|refine R6 ?_|refine Ar [(0,true),(1,true),(2,false),(3,false)] [] (by decide +kernel) ?_|refine Ar [(0,true),(1,true),(2,true),(4,true),(3,false),(5,false),(6,true),(7,false),(8,false)] [1] (by decide +kernel) ?_|with_reducible refine WF ?_)
 all_goals conv=>whnf
 all_goals exact C4 hc.y h
end
theorem TB {stmt:Rd Nd} {l:List Nd}:Rd.A6 (Ek stmt l):=Rd.A6.seq (OT (by decide))
theorem Of {l:List Nd} {i:Int} {x:Nd} {K:List V→Prop} (h:l[i.toNat]? =some x) (U:0≤i) (k:K (A3 x)):0≤i∧∃e,(l.map A3)[i.toNat]? =some e∧K e:=⟨U,A3 x,by rw [List.getElem?_map,h];rfl,k⟩
section
variable {st0 st:St} {b d:Nat} {s:Ae} {rows:List (AO×List Nd)} {K:AM→St→Prop} {L:Eo}
attribute [local irreducible] Go.Aw.Ai
theorem JZ {stmt:Rd Nd} (hs:Bh enc 60 (fun b=>[pv b d]) stmt) {Q:List Nd→Ae→Prop} {E:Er→Ae→Prop} (hc:Cx st0 b s st rows) (h:Rd.wp (Ek stmt []) s Q E)
 (k:∀l' U s' st',l'.length≤400000002→mu s'<mu s→Cx st0 b s' st' ((U,l')::rows)→Q l' s'→K (.ret (.slice 6 (l'.map A3) U)) st') (kb:∀e s' st',Cy st0 b s' st' rows→E e s'→K (.Cg (fault e.1)) st'):PC 192 [pv b d,.slice 6 [] .full] st K:=
 lr.go (l:=[]) (own:=.full) (Uh hs) (Nat.le_of_ble_eq_true rfl) (hc.push _) h (fun l' U s' st' hr hm hc' q=>k l' U s' st' (by have:=QY hr;have:=hc.mu;simp only [List.length_nil] at *;omega) (TB _ _ _ hr) hc' q) kb
theorem fJ (hL:Ku d L) {exp stmt:Rd Nd} {m:List UInt8} (he:Bh enc 80 (fun b=>[pv b d]) exp) (hs:Bh enc 60 (fun b=>[pv b d]) stmt):Bh enc 131 (fun b=>[pv b d,.str m]) (Ss L exp stmt m):=by
 refine ⟨fun {st0 b s st rows K} hc h=>?_⟩
 simp only [Ss,Un,Rd.Ao,Rd.AV,Rd.wp_seq,Rd.wp_ret] at h
 have hmu:=hc.mu
 refine Aa Ac [] Tryz.func131 rfl (by decide) ?_
 repeat' ((conv=>whnf);first|exact FR|(refine BQ ?_;intros)|(refine FT ?_ ?_ ?_;rotate_left)|(refine BR ?_ ?_<;>intro e h)|(refine BS ?_ ?_<;>intro _)|refine Y5 (fun _=>?_) ?_|(refine G5 ?_;intro U hc)|(refine Kv ?_ ?_<;>intro U hc e h)|(refine JH ?_;intro s1 U hz hm hc h)|refine HX (fun n s1 U hr hm hc h=>?_) (fun e s1 U hc h=>?_)|(refine bQ ?_;intro e s1 U hc h)|exact E2|refine IY ?_|(refine Kf ?_;intro own1 U hc)|refine Ew (fun _=>?_)|refine Al (fun e1=>?_)|refine Bh.go he hc h (fun n s1 U hr hm hc h=>?_) (fun e s1 U hc h=>?_)|refine Cx.pd (l:=[]) (hc.push []) (Nat.le_of_ble_eq_true rfl) (fun own1 U hc=>?_)|refine Ar [(0,true),(1,true),(2,true),(4,true),(3,false),(5,false),(6,true),(7,false),(8,true)] [] (by decide +kernel) ?_|refine Ar [(0,true),(1,true),(2,true),(4,true),(3,false),(5,false),(6,true),(7,false),(8,true),(9,false),(10,true)] [] (by decide +kernel) ?_|with_reducible refine WF ?_)
 ·refine CM (fun l own=>[(5,.slice 6 (l.map A3) own)]) (fun _ _=>[]) [1,2,4] [0,1] (fun l own=>(own,l)::rows) (fun l=>l.length) _ hc h (by simp only [List.length_append,List.length_cons,List.length_nil];omega) Yl ?_
  intro l s1 U own1 hc h hl hm1
  have hl2:l.length+1≤1000000000:=by omega
  simp only [O3,Ig,Rd.Ao,Rd.AV,Rd.wp_seq,Rd.wp_ret,Rd.BB] at h
  clear hmu
  have hmu:=hc.mu
  by_cases hn:l=[]
  ·subst hn
   rw [if_pos (show ((([]:List Nd).length:Int)==0)=true from rfl)] at h
   repeat' ((conv=>whnf);first|exact FR|(refine BQ ?_;intros)|(refine FT ?_ ?_ ?_;rotate_left)|(refine BR ?_ ?_<;>intro e h)|(refine BS ?_ ?_<;>intro _)|refine Y5 (fun _=>?_) ?_|(refine G5 ?_;intro U hc)|(refine Kv ?_ ?_<;>intro U hc e h)|(refine JH ?_;intro s1 U hz hm hc h)|refine HX (fun n s1 U hr hm hc h=>?_) (fun e s1 U hc h=>?_)|(refine bQ ?_;intro e s1 U hc h)|exact E2|refine IY ?_|(refine Kf ?_;intro own1 U hc)|refine Ew (fun _=>?_)|refine Al (fun e1=>?_)|refine JZ hs hc h (fun g own2 s1 U hg hm hc h=>?_) (fun e s1 U hc h=>?_)|refine Bh.go he hc h (fun n s1 U hr hm hc h=>?_) (fun e s1 U hc h=>?_)|refine Bh.go hL.decls hc h (fun n s1 U hr hm hc h=>?_) (fun e s1 U hc h=>?_)|exact absurd rfl (by assumption)|refine Of hx (by omega) ?_|refine hc.KT (by simp only [List.length_append,List.length_cons,List.length_nil]<;>omega) (fun own1 U hc=>?_)|refine Cx.KT (x:=AD 30 _) hc.drop hl2 (fun own1 U hc=>?_)|refine Ar [(0,true),(1,true),(2,true),(4,true),(3,false),(5,false),(6,true),(7,false),(8,true)] [] (by decide +kernel) ?_|refine Ar [(0,true),(1,true),(2,true),(4,true),(3,false),(5,false),(6,true),(7,false),(8,true),(9,false),(10,true)] [] (by decide +kernel) ?_|with_reducible refine WF ?_)
   all_goals conv=>whnf
  ·obtain ⟨x,hx⟩:∃x,l[((0:Int)).toNat]? =some x:=by
    cases l with
    |nil=>exact absurd rfl hn
    |cons x l=>exact ⟨x,rfl⟩
   have hz:((l.length:Int)==0)=false:=beq_eq_false_iff_ne.2 fun e=>hn (List.length_eq_zero_iff.1 (by omega))
   have hd:l.headD MS=x:=by
    cases l with
    |nil=>exact absurd rfl hn
    |cons y l=>cases hx;rfl
   rw [if_neg (by rw [hz];decide),hd] at h
   repeat' ((conv=>whnf);first|exact FR|(refine BQ ?_;intros)|(refine FT ?_ ?_ ?_;rotate_left)|(refine BR ?_ ?_<;>intro e h)|(refine BS ?_ ?_<;>intro _)|refine Y5 (fun _=>?_) ?_|(refine G5 ?_;intro U hc)|(refine Kv ?_ ?_<;>intro U hc e h)|(refine JH ?_;intro s1 U hz hm hc h)|refine HX (fun n s1 U hr hm hc h=>?_) (fun e s1 U hc h=>?_)|(refine bQ ?_;intro e s1 U hc h)|exact E2|refine IY ?_|(refine Kf ?_;intro own1 U hc)|refine Ew (fun _=>?_)|refine Al (fun e1=>?_)|refine JZ hs hc h (fun g own2 s1 U hg hm hc h=>?_) (fun e s1 U hc h=>?_)|refine Bh.go he hc h (fun n s1 U hr hm hc h=>?_) (fun e s1 U hc h=>?_)|refine Bh.go hL.decls hc h (fun n s1 U hr hm hc h=>?_) (fun e s1 U hc h=>?_)|exact absurd rfl (by assumption)|refine Of hx (by omega) ?_|refine hc.KT (by simp only [List.length_append,List.length_cons,List.length_nil]<;>omega) (fun own1 U hc=>?_)|refine Cx.KT (x:=AD 30 _) hc.drop hl2 (fun own1 U hc=>?_)|refine Ar [(0,true),(1,true),(2,true),(4,true),(3,false),(5,false),(6,true),(7,false),(8,true)] [] (by decide +kernel) ?_|refine Ar [(0,true),(1,true),(2,true),(4,true),(3,false),(5,false),(6,true),(7,false),(8,true),(9,false),(10,true)] [] (by decide +kernel) ?_|with_reducible refine WF ?_)
   all_goals conv=>whnf
 ·refine CM (fun l own=>[(5,.slice 6 (l.map A3) own)]) (fun _ _=>[]) [1,2,4] [0,1] (fun l own=>(own,l)::rows) (fun l=>l.length) .full (hc.push []) h (by simp only [List.length_append,List.length_cons,List.length_nil];omega) Yl ?_
  intro l s1 U own1 hc h hl hm1
  have hl2:l.length+1≤1000000000:=by omega
  simp only [O3,Ig,Rd.Ao,Rd.AV,Rd.wp_seq,Rd.wp_ret,Rd.BB] at h
  clear hmu
  have hmu:=hc.mu
  by_cases hn:l=[]
  ·subst hn
   rw [if_pos (show ((([]:List Nd).length:Int)==0)=true from rfl)] at h
   repeat' ((conv=>whnf);first|exact FR|(refine BQ ?_;intros)|(refine FT ?_ ?_ ?_;rotate_left)|(refine BR ?_ ?_<;>intro e h)|(refine BS ?_ ?_<;>intro _)|refine Y5 (fun _=>?_) ?_|(refine G5 ?_;intro U hc)|(refine Kv ?_ ?_<;>intro U hc e h)|(refine JH ?_;intro s1 U hz hm hc h)|refine HX (fun n s1 U hr hm hc h=>?_) (fun e s1 U hc h=>?_)|(refine bQ ?_;intro e s1 U hc h)|exact E2|refine IY ?_|(refine Kf ?_;intro own1 U hc)|refine Ew (fun _=>?_)|refine Al (fun e1=>?_)|refine JZ hs hc h (fun g own2 s1 U hg hm hc h=>?_) (fun e s1 U hc h=>?_)|refine Bh.go he hc h (fun n s1 U hr hm hc h=>?_) (fun e s1 U hc h=>?_)|refine Bh.go hL.decls hc h (fun n s1 U hr hm hc h=>?_) (fun e s1 U hc h=>?_)|exact absurd rfl (by assumption)|refine Of hx (by omega) ?_|refine hc.KT (by simp only [List.length_append,List.length_cons,List.length_nil]<;>omega) (fun own1 U hc=>?_)|refine Cx.KT (x:=AD 30 _) hc.drop hl2 (fun own1 U hc=>?_)|refine Ar [(0,true),(1,true),(2,true),(4,true),(3,false),(5,false),(6,true),(7,false),(8,true)] [] (by decide +kernel) ?_|refine Ar [(0,true),(1,true),(2,true),(4,true),(3,false),(5,false),(6,true),(7,false),(8,true),(9,false),(10,true)] [] (by decide +kernel) ?_|with_reducible refine WF ?_)
   all_goals conv=>whnf
  ·obtain ⟨x,hx⟩:∃x,l[((0:Int)).toNat]? =some x:=by
    cases l with
    |nil=>exact absurd rfl hn
    |cons x l=>exact ⟨x,rfl⟩
   have hz:((l.length:Int)==0)=false:=beq_eq_false_iff_ne.2 fun e=>hn (List.length_eq_zero_iff.1 (by omega))
   have hd:l.headD MS=x:=by
    cases l with
    |nil=>exact absurd rfl hn
    |cons y l=>cases hx;rfl
   rw [if_neg (by rw [hz];decide),hd] at h
   repeat' ((conv=>whnf);first|exact FR|(refine BQ ?_;intros)|(refine FT ?_ ?_ ?_;rotate_left)|(refine BR ?_ ?_<;>intro e h)|(refine BS ?_ ?_<;>intro _)|refine Y5 (fun _=>?_) ?_|(refine G5 ?_;intro U hc)|(refine Kv ?_ ?_<;>intro U hc e h)|(refine JH ?_;intro s1 U hz hm hc h)|refine HX (fun n s1 U hr hm hc h=>?_) (fun e s1 U hc h=>?_)|(refine bQ ?_;intro e s1 U hc h)|exact E2|refine IY ?_|(refine Kf ?_;intro own1 U hc)|refine Ew (fun _=>?_)|refine Al (fun e1=>?_)|refine JZ hs hc h (fun g own2 s1 U hg hm hc h=>?_) (fun e s1 U hc h=>?_)|refine Bh.go he hc h (fun n s1 U hr hm hc h=>?_) (fun e s1 U hc h=>?_)|refine Bh.go hL.decls hc h (fun n s1 U hr hm hc h=>?_) (fun e s1 U hc h=>?_)|exact absurd rfl (by assumption)|refine Of hx (by omega) ?_|refine hc.KT (by simp only [List.length_append,List.length_cons,List.length_nil]<;>omega) (fun own1 U hc=>?_)|refine Cx.KT (x:=AD 30 _) hc.drop hl2 (fun own1 U hc=>?_)|refine Ar [(0,true),(1,true),(2,true),(4,true),(3,false),(5,false),(6,true),(7,false),(8,true)] [] (by decide +kernel) ?_|refine Ar [(0,true),(1,true),(2,true),(4,true),(3,false),(5,false),(6,true),(7,false),(8,true),(9,false),(10,true)] [] (by decide +kernel) ?_|with_reducible refine WF ?_)
   all_goals conv=>whnf
end
section
variable {st0 st:St} {b d:Nat} {s:Ae} {rows:List (AO×List Nd)} {K:AM→St→Prop} {L:Eo}
attribute [local irreducible] Go.Aw.Ai
theorem l9 (hL:Ku d L) {ops exp stmt:Rd Nd} (ho:Bh enc 130 (fun b=>[pv b d]) ops) (he:Bh enc 80 (fun b=>[pv b d]) exp) (hs:Bh enc 60 (fun b=>[pv b d]) stmt):
 Bh enc 69 (fun b=>[pv b d]) (SV L ops exp stmt):=by
 refine ⟨fun {st0 b s st rows K} hc h=>?_⟩
 simp only [SV,Rd.AV,Rd.wp_seq,Rd.wp_ret,Rd.Ea] at h
 refine Aa Ac [] Tryz.func69 rfl (by decide) ?_
 repeat' ((conv=>whnf);first|exact FR|(refine BQ ?_;intros)|(refine FT ?_ ?_ ?_;rotate_left)|(refine BR ?_ ?_<;>intro e h)|(refine BS ?_ ?_<;>intro _)|exact E2|refine IY ?_|refine Al (fun e1=>?_)|refine Bh.go ho hc h (fun n s1 U hr hm hc h=>?_) (fun e s1 U hc h=>?_)|refine RO ?_|refine R7 ?_|refine R6 ?_|refine Bh.go (fJ hL he hs) hc h (fun n s1 U hr hm hc h=>?_) (fun e s1 U hc h=>?_)|refine Ar [(0,true),(1,true),(2,false),(3,false)] [] (by decide +kernel) ?_|refine Ar [(0,true),(1,true),(2,false),(3,true),(4,false),(5,false)] [1] (by decide +kernel) ?_|with_reducible refine WF ?_)
end
theorem Rd.eK {σ β:Type} {body:σ→Rd (Sum σ β)} {P:β→Prop} (h1:∀x s y s',(body x).run s=.inr (.inr y,s')→P y) (x:σ) (s:Ae):∀y s',(Rd.loop body x).run s=.inr (y,s')→P y:=by
 show ∀y s',Rd.iter body x s=.inr (y,s')→_
 fun_induction Rd.iter body x s with
 |case1 x s e h=>intro y s' U;cases U
 |case2 x s y s1 h=>intro y s' U;cases U;exact h1 _ _ _ _ h
 |case3 x s x' s1 h hlt ih=>exact ih
 |case4 x s x' s1 h hlt=>intro y s' U;cases U
theorem fR {U:Rd Nd} {br:Bool} {s s':Ae} {p:List Nd×Bool} (h:(Ed U br).run s=.inr (p,s')):∃x,p.1[((p.1.length:Nat) - 1:Int).toNat]? =some x∧p.1.getLastD MS=x∧1≤p.1.length:=by
 have:∃l x,p.1=l++[x]:=by
  refine Rd.eK (body:=GL U br) (P:=fun p=>∃l x,p.1=l++[x]) (fun x s y s' h=>?_) _ _ _ _ h
  unfold GL at h
  obtain ⟨l,s1,_,h⟩:=BG h
  obtain ⟨n,s2,_,h⟩:=BG h
  replace h:(if EN (Ad s2).1=true then .seq Fv fun o=>
   if br=true then .look fun s=>if Ba s 15 [41]=true then .ret (.inr (l++[n]++[o],true)) else .ret (.inl (l++[n]++[o]))
   else .ret (.inl (l++[n]++[o]))
   else .ret (.inr (l++[n],false)):Rd (Sum (List Nd) (List Nd×Bool))).run s2=.inr (.inr y,s'):=h
  split at h
  ·obtain ⟨o,s3,_,h⟩:=BG h
   split at h
   ·replace h:(if Ba s3 15 [41]=true then .ret (.inr (l++[n]++[o],true)) else .ret (.inl (l++[n]++[o])):Rd (Sum (List Nd) (List Nd×Bool))).run s3=.inr (.inr y,s'):=h
    split at h
    ·cases h;exact ⟨_,_,rfl⟩
    ·cases h
   ·cases h
  ·cases h;exact ⟨_,_,rfl⟩
 obtain ⟨l,x,e⟩:=this
 refine ⟨x,?_,?_,?_⟩
 ·rw [e];simp only [List.length_append,List.length_cons,List.length_nil]
  rw [show (((l.length+(0+1):Nat):Int) - 1).toNat=l.length by omega]
  simp
 ·rw [e];simp
 ·rw [e];simp
theorem Xc {l:List Nd} {K:List (List V)→Prop} (hn:1≤l.length) (k:K ((l.take (l.length - 1)).map A3)):
 ((0:Int)≤0∧(0:Int)≤(l.length:Int) - 1∧(l.length:Int) - 1=(l.length:Int) - 1∧(l.length:Int) - 1≤((l.map A3).length:Int))∧∀U,U=List.drop (Int.toNat 0) (List.take ((l.length:Int) - 1).toNat (l.map A3))→K U:=by
 refine ⟨⟨by omega,by omega,rfl,by rw [List.length_map];omega⟩,fun U e=>?_⟩
 rw [e,show ((l.length:Int) - 1).toNat=l.length - 1 by omega,←List.map_take]
 exact k
section
variable {st0 st:St} {b d:Nat} {s:Ae} {rows:List (AO×List Nd)} {K:AM→St→Prop} {L:Eo}
attribute [local irreducible] Go.Aw.Ai
theorem Rm {opd full exp:Rd Nd} {o:Nd} (ho:Bh enc 240 (fun b=>[pv b d]) opd) (hf:Bh enc 203 (fun b=>[pv b d]) full) (he:Bh enc 80 (fun b=>[pv b d]) exp):
 Bh enc 340 (fun b=>[pv b d,enc o]) (BU opd full exp o):=by
 refine ⟨fun {st0 b s st rows K} hc h=>?_⟩
 simp only [BU,Rd.AV,Rd.wp_seq,Rd.wp_ret,Rd.Ea] at h
 have hmu:=hc.mu
 refine BF Ac [] Tryz.func340 rfl (by decide) rfl ?_
 refine Au (As Ac ?_)
 repeat' ((conv=>whnf);first|exact FR|(refine BQ ?_;intros)|(refine FT ?_ ?_ ?_;rotate_left)|(refine BR ?_ ?_<;>intro e h)|(refine BS ?_ ?_<;>intro _)|with_reducible refine WF ?_)
 refine Au (As Ac ?_)
 repeat' ((conv=>whnf);first|exact FR|(refine BQ ?_;intros)|(refine FT ?_ ?_ ?_;rotate_left)|(refine BR ?_ ?_<;>intro e h)|(refine BS ?_ ?_<;>intro _)|refine n7.go (fS ho) hc h (fun p own1 s1 U hr hm hc h=>?_) (fun e s1 U hc h=>?_)|exact C4 hc h|with_reducible refine WF ?_)
 all_goals obtain ⟨x,hx,hd,hn⟩:=fR hr
 all_goals try rw [hd] at h
 all_goals refine As Ac ?_
 all_goals (repeat' ((conv=>whnf);first|exact FR|(refine BQ ?_;intros)|(refine FT ?_ ?_ ?_;rotate_left)|(refine BR ?_ ?_<;>intro e h)|(refine BS ?_ ?_<;>intro _)|(refine G5 ?_;intro U hc)|(refine Kv ?_ ?_<;>intro U hc e h)|(refine JH ?_;intro s1 U hz hm hc h)|refine HX (fun n s1 U hr hm hc h=>?_) (fun e s1 U hc h=>?_)|exact E2|refine IY ?_|(refine Kf ?_;intro own1 U hc)|refine Ew (fun _=>?_)|refine Al (fun e1=>?_)|refine Xc hn ?_|refine Of hx (by omega) ?_|refine Bh.go (US hf) hc h (fun n s1 U hr hm hc h=>?_) (fun e s1 U hc h=>?_)|refine Ar [(0,true),(1,true),(2,true),(3,true),(4,true),(6,true),(7,true),(8,true),(9,true),(10,true),(11,true),(5,false),(12,false),(13,true),(14,false),(15,false)] [2] (by decide +kernel) ?_|refine Ar [(0,true),(1,true),(2,true),(3,false),(4,false),(5,true),(6,true)] [] (by decide +kernel) ?_|with_reducible refine WF ?_))
 all_goals refine CM (fun (q:Int×List Nd) own=>[(9,.int .i64 q.1),(8,.slice 6 (q.2.map A3) own)]) (fun _ _=>[]) [2,4] [0,2] (fun q own=>(own,q.2)::rows) (fun q=>q.2.length) .full (hc.drop.push _) h (by show 2+_≤_;omega) Yl ?_
 all_goals intro q s1 U own1 hc h hl hm1
 all_goals simp only [PW,Rd.Ao,Rd.AV,Rd.wp_seq,Rd.wp_ret,Rd.BB] at h
 all_goals obtain ⟨k,l⟩:=q
 all_goals dsimp only at hc h hl
 all_goals (repeat' ((conv=>whnf);first|exact FR|(refine BQ ?_;intros)|(refine FT ?_ ?_ ?_;rotate_left)|(refine BR ?_ ?_<;>intro e h)|(refine BS ?_ ?_<;>intro _)|(refine G5 ?_;intro U hc)|(refine Kv ?_ ?_<;>intro U hc e h)|(refine JH ?_;intro s1 U hz hm hc h)|refine HX (fun n s1 U hr hm hc h=>?_) (fun e s1 U hc h=>?_)|exact E2|refine IY ?_|(refine Kf ?_;intro own1 U hc)|refine Ew (fun _=>?_)|refine Al (fun e1=>?_)|refine Bh.go he hc h (fun n s1 U hr hm hc h=>?_) (fun e s1 U hc h=>?_)|refine Ar [(0,true),(1,true),(2,true),(3,true),(4,true),(6,true),(7,true),(8,true),(9,true),(10,true),(11,true),(5,false),(12,false),(13,true),(14,false),(15,false)] [2] (by decide +kernel) ?_|refine Ar [(0,true),(1,true),(2,true),(3,false),(4,false),(5,true),(6,true)] [] (by decide +kernel) ?_|with_reducible refine WF ?_))
 all_goals conv=>whnf
end
section
variable {st0 st:St} {b d c:Nat} {s:Ae} {rows:List (AO×List Nd)} {K:AM→St→Prop} {L:Eo} {o:Nd} {A:Rd Nd}
theorem fK (hb:Bh enc 340 (fun b=>[pv b d,enc o]) A) (hx:st.box c=some (A3 o)) (hc:Cx st0 b s st rows)
 (h:Rd.wp A s (fun v s'=>∀st',Cx st0 b s' st' rows→K (.ret (enc v)) st') (fun e s'=>∀st',Cy st0 b s' st' rows→K (.Cg (fault e.1)) st')):PC 339 [pv b d,.ptr c 0] st K:=by
 refine Aa Ac [] Tryz.func339 rfl (by decide) ?_
 repeat' ((conv=>whnf);first|(refine BQ ?_;intros)|(refine BR ?_ ?_<;>intro e h)|(refine BS ?_ ?_<;>intro _)|refine At hx ?_|refine Bh.go hb hc h (fun n s1 U hr hm hc h=>?_) (fun e s1 U hc h=>?_)|exact E2|refine Al (fun e1=>?_))
theorem aV (hb:Bh enc 342 (fun b=>[pv b d,enc o]) A) (hx:st.box c=some (A3 o)) (hc:Cx st0 b s st rows)
 (h:Rd.wp A s (fun v s'=>∀st',Cx st0 b s' st' rows→K (.ret (enc v)) st') (fun e s'=>∀st',Cy st0 b s' st' rows→K (.Cg (fault e.1)) st')):PC 341 [pv b d,.ptr c 0] st K:=by
 refine Aa Ac [] Tryz.func341 rfl (by decide) ?_
 repeat' ((conv=>whnf);first|(refine BQ ?_;intros)|(refine BR ?_ ?_<;>intro e h)|(refine BS ?_ ?_<;>intro _)|refine At hx ?_|refine Bh.go hb hc h (fun n s1 U hr hm hc h=>?_) (fun e s1 U hc h=>?_)|exact E2|refine Al (fun e1=>?_))
end
section
variable {st0 st:St} {b d:Nat} {s:Ae} {rows:List (AO×List Nd)} {K:AM→St→Prop} {L:Eo}
attribute [local irreducible] Go.Aw.Ai
theorem VK:Bh enc 197 (fun b=>[pv b d]) A7:=by
 refine ⟨fun {st0 b s st rows K} hc h=>?_⟩
 refine Aa Ac [] Tryz.func197 rfl (by decide) ?_
 repeat' ((conv=>whnf);first|(refine BQ ?_;intros)|(refine BR ?_ ?_<;>intro e h)|(refine BS ?_ ?_<;>intro _)|refine IF.go hc h (fun n s1 U hr hm hc h=>?_) (fun e s1 U hc h=>?_)|(refine JH ?_;intro s1 U hz hm hc h)|refine HX (fun n s1 U hr hm hc h=>?_) (fun e s1 U hc h=>?_)|exact E2|refine Al (fun e1=>?_))
theorem fz {n x:Nd} (hx:n.kids[(Int.tdiv (n.kids.length:Int) 2).toNat]? =some x) (U:n.kids[n.kids.length / 2]? =some x) (h:K (.ret (.bool (KH n))) st):PC 200 [enc n] st K:=by
 have e:KH n= !(x.form==7||x.form==8||x.form==3||x.form==4):=by unfold KH;rw [U]
 rw [e] at h
 refine Aa Ac [] Tryz.func200 rfl (by decide) ?_
 have h0:0≤Int.tdiv (n.kids.length:Int) 2:=Int.tdiv_nonneg (by omega) (by omega)
 repeat' ((conv=>whnf);first|(refine BQ ?_;intros)|(refine BR ?_ ?_<;>intro e h)|(refine BS ?_ ?_<;>intro _)|refine Wm hx h0 ?_)
 all_goals conv=>whnf
 all_goals (refine AB h ?_;clear h;simp_all)
end
end Go.Proofs.YtkidoddkbhchkaaGreatDoor
namespace Go.Aw
open Go
theorem aC {P:Program} {f:FuncId} {s:List UInt8} {r:List V} {st:St} {R:AM→St→Prop} (hb:Plain P f) (h:s.length<4611686018427387904→A5 P f (.str s::r) st R):A5 P f (.str s::r) st R:=by
 refine ⟨?_,hb⟩
 intro I w cargs hs U
 have hl:s.length<4611686018427387904:=by
  have h2:=U
  simp only [Ag,Az] at h2
  obtain ⟨c,rr,_,h2,_⟩:=h2
  exact h2.2
 exact (h hl).a I w cargs hs U
def Jm (s:List UInt8) (k:Int):Bool:=(DM s).1==k&&(s.take (DM s).2==s)
theorem bb {s:List UInt8} {n:Nat} (h:n≤s.length):s.take n=s↔n=s.length:=by
 constructor
 ·intro e
  have:=congrArg List.length e
  rw [List.length_take] at this
  omega
 ·intro e;rw [e,List.take_length]
theorem Me {s:List UInt8} {k:Int}:Jm s k=true↔(DM s).1=k∧(DM s).2=s.length:=by
 unfold Jm
 rw [Bool.and_eq_true,beq_iff_eq,beq_iff_eq,bb (Sd s)]
theorem bE {s:List UInt8} (h:Jm s 11=true):Bs (Cn s).1 (s.drop (Cn s).2)=s.length - (Cn s).2∧(Cn s).2≤s.length:=by
 obtain ⟨U,h2⟩:=Me.1 h
 by_cases hb:(Cn s).1=10
 ·have hp:Cn s=(10,0):=by
   rcases LC s with e|⟨e,_⟩|⟨e,_⟩
   ·exact e
   ·rw [e] at hb;cases hb
   ·rw [e] at hb;cases hb
  rw [hp]
  refine ⟨?_,Nat.zero_le _⟩
  show Bs 10 (s.drop 0)=s.length - 0
  rw [List.drop_zero,Nat.sub_zero]
  by_cases h0:Bs 10 s=0
  ·rw [fh hb h0] at U;cases U
  ·have e:=WS (l:=s) hb rfl h0 rfl rfl
   rw [e] at U h2
   dsimp only at U h2
   split at U
   ·cases U
   ·omega
 ·have e:=WR (l:=s) hb
  have hp2:(Cn s).2=2:=by
   rcases LC s with e|⟨e,_⟩|⟨e,_⟩
   ·rw [e] at hb;exact absurd rfl hb
   ·rw [e]
   ·rw [e]
  rw [e] at h2
  dsimp only at h2
  rw [hp2]
  omega
theorem Zx {c b:Int} (hb:b≤16) (h:¬Bx c b<0):0≤Bx c b∧Bx c b<b∧Bx c b≤15:=by
 unfold Bx at h ⊢
 dsimp only at h ⊢
 (repeat' split at h)<;>(repeat' split)<;>omega
end Go.Aw
namespace Go.Proofs.YtkidoddkbhchkaaGreatDoor
open Go Go.Aw
theorem UY {base:Int} {s:List UInt8} {pos c m:Nat} {v:Int} (h:pos<s.length) (U:(c,m)=AH (s.drop pos)) (k:¬Bx (c:Int) base<0):
 m=1∧JG base (s.drop pos) v=if (4611686018427387904 - Bx (c:Int) base) / base<v then (0,3) else JG base (s.drop (pos+1)) (v*base+Bx (c:Int) base):=by
 obtain ⟨a,ha⟩:∃a,s[pos]? =some a:=⟨_,List.getElem?_eq_getElem h⟩
 have e:=drop_at ha
 have hlo:a.toNat<128:=by
  apply Classical.byContradiction
  intro hn
  have:=NA (r:=s.drop (pos+1)) hn
  rw [e] at U
  rw [←U] at this
  exact k (Ht (by dsimp only at this;omega))
 rw [e,Dp hlo] at U
 obtain ⟨rfl,rfl⟩:=Prod.mk.inj U
 refine ⟨rfl,?_⟩
 rw [e,JG]
theorem gi {s t:List UInt8} {n:Nat} {K:List UInt8→Prop} (ht:s.drop n=t) (U:0≤(n:Int)) (h1:(n:Int)≤s.length) (k:K t):
 (0≤(n:Int)∧(n:Int)≤(s.length:Int)∧(s.length:Int)≤s.length)∧∀s',s'=(s.take (s.length:Int).toNat).drop (n:Int).toNat→K s':=WN U h1 (by subst ht;exact k)
section
variable {st:St} {R:AM→St→Prop}
theorem oQ {s:List UInt8} {k:Int} (U:s.length≤4611686018427387903) (h:R (.ret (.bool (Jm s k))) st):PC 299 [.str s,.int .i64 k] st R:=by
 refine Aa Ac [] Tryz.func299 rfl (by decide) ?_
 repeat' ((conv=>whnf);first|(refine BQ ?_;intros)|(refine BR ?_ ?_<;>intro e h)|(refine BS ?_ ?_<;>intro _)|refine Yw U ?_)
 all_goals conv=>whnf
 all_goals (refine AB h ?_;clear h;simp_all [Jm])
theorem lJ {s:List UInt8} {k:Int} {b:Bool} (e:Jm s k=b) (U:s.length≤4611686018427387903) (h:R (.ret (.bool b)) st):PC 299 [.str s,.int .i64 k] st R:=oQ U (by rw [e];exact h)
theorem iO {t:List UInt8} {pos c m:Nat} {b:Int} (hb:b≤16) (hl:pos<t.length) (hd:(c,m)=AH (t.drop pos)) (hr:Bs b (t.drop pos)=t.length - pos) (k:∀d,d=Bx c b→0≤d→d<b→R (.ret (.int .i64 d)) st):PC 300 [.int .i32 c,.int .i64 b] st R:=by
 have hn:¬Bx (c:Int) b<0:=fun e=>by
  have:=G3 hl hd e
  omega
 obtain ⟨U,h2,_⟩:=Zx hb hn
 exact K5 (k _ rfl U h2)
theorem oP {b v d:Int} {K:Int→Prop} (hb:b=10∨b=8∨b=16) (U:0≤v) (h1:0≤d) (h2:d<b) (h3:¬(4611686018427387904 - d) / b<v) (k:K (v*b)):∃r,r=IntKind.i64.wrap (v*b)∧K r:=by
 refine ⟨_,(J9 ?_ ?_).symm,k⟩<;>(rcases hb with rfl|rfl|rfl<;>omega)
theorem n9 {b v d:Int} {K:Int→Prop} (hb:b=10∨b=8∨b=16) (U:0≤v) (h1:0≤d) (h2:d<b) (h3:¬(4611686018427387904 - d) / b<v) (k:K (v*b+d)):∃r,r=IntKind.i64.wrap (v*b+d)∧K r:=by
 refine ⟨_,(J9 ?_ ?_).symm,k⟩<;>(rcases hb with rfl|rfl|rfl<;>omega)
theorem ov {b v d:Int} (hb:b=10∨b=8∨b=16) (U:0≤v) (h1:0≤d) (h2:d<b) (h3:¬(4611686018427387904 - d) / b<v):0≤v*b+d∧v*b+d≤4611686018427387904:=by
 rcases hb with rfl|rfl|rfl<;>omega
theorem bG {s:List UInt8} {b:Int} {n:Nat} (U:Jm s 11=true) (hp:Cn s=(b,n)):JF s=JG b (s.drop n) 0:=by
 unfold JF
 rw [if_pos (Me.1 U),hp]
theorem lj {s:List UInt8} (h:R (.ret (.Bo [.int .i64 (JF s).1,.int .i64 (JF s).2])) st):PC 248 [.str s] st R:=by
 refine aC ⟨_,Tryz.func248,by decide,by decide⟩ fun hl0=>?_
 have hl:s.length≤4611686018427387903:=by omega
 refine Aa Ac [] Tryz.func248 rfl (by decide) ?_
 cases hn:Jm s 11 with
 |false=>
  have hw:JF s=(0,40):=by
   unfold JF
   rw [if_neg fun e=>?_]
   rw [Me.2 e] at hn;cases hn
  rw [hw] at h
  repeat' ((conv=>whnf);first|(refine BQ ?_;intros)|(refine BR ?_ ?_<;>intro e h)|(refine BS ?_ ?_<;>intro _)|refine lJ hn hl ?_)
  all_goals exact fin h rfl
 |true=>
  obtain ⟨hr,hle⟩:=bE hn
  have key:∀(b:Int) (n:Nat),Cn s=(b,n)→b=10∨b=8∨b=16:=fun b n e=>by
   rcases LC s with h|⟨h,_⟩|⟨h,_⟩<;>(rw [h] at e;cases e;omega)
  generalize hp:Cn s=p at hr hle
  obtain ⟨b,n⟩:=p
  have hp0:Cn s=(b,n):=hp
  dsimp only at hr hle
  have hb:=key b n hp
  rw [bG hn hp] at h
  have hlen:(s.drop n).length=s.length - n:=by rw [List.length_drop]
  generalize ht:s.drop n=t at h hr hlen
  have hr:Bs b t=t.length:=by omega
  clear hp key hlen
  repeat' ((conv=>whnf);first|(refine BQ ?_;intros)|(refine BR ?_ ?_<;>intro e h)|(refine BS ?_ ?_<;>intro _)|refine lJ hn hl ?_|refine Iw hp0 hl ?_|refine gi ht (by omega) (by omega) ?_)
  conv=>whnf
  refine V1 (α:=Nat) (β:=Int) (fun pos v=>[(6,.int .i64 v)]) (fun pos v=>[(0,[.Nk t pos])]) [0,4,5,21] [] (fun _ _=>st) (fun pos v=>pos≤t.length∧Bs b (t.drop pos)=t.length - pos∧JG b t 0=JG b (t.drop pos) v∧0≤v∧v≤4611686018427387904) (fun pos v=>t.length - pos) 0 0 ⟨Nat.zero_le _,by rw [List.drop_zero];omega,by rw [List.drop_zero],by omega,by omega⟩ Yl (St.le_refl _) ?_
  rintro pos v ⟨j1,j2,j3,j4,j5⟩
  rw [j3] at h
  have hb0:0<b:=by omega
  repeat' ((conv=>whnf);first|(refine BQ ?_;intros)|(refine BR ?_ ?_<;>intro e h)|(refine BS ?_ ?_<;>intro _)|refine WK (fun c m hd=>?_)|refine Wr hb0 (by omega) (by omega) ?_|refine iO (by omega) (by assumption) (by assumption) j2 (fun d U hd1 hd2=>?_)|refine oP hb j4 hd1 hd2 (by assumption) ?_|refine n9 hb j4 hd1 hd2 (by assumption) ?_)
  ·rename_i hlt hgt
   obtain ⟨e1,e2⟩:=UY (v:=v) (base:=b) hlt hd (by rw [←U];omega)
   rw [e2,←U,if_pos hgt] at h
   exact fin h rfl
  ·rename_i hlt hgt
   obtain ⟨e1,e2⟩:=UY (v:=v) (base:=b) hlt hd (by rw [←U];omega)
   have e3:=(LH (base:=b) hlt hd (by rw [←U];omega)).2
   rw [←U,if_neg hgt] at e2
   have hf:=ov hb j4 hd1 hd2 hgt
   subst e1
   conv=>whnf
   exact ⟨(pos+1,v*b+d),⟨by dsimp only;omega,by dsimp only;omega,by rw [j3,e2],hf.1,hf.2⟩,by dsimp only;omega,Yl,St.le_refl _⟩
  ·rename_i hlt
   rw [List.drop_eq_nil_iff.2 (by omega)] at h
   exact fin h rfl
end
def ji (n:Nd) (s:Ae) (e:Int):V:=.agg [.int .i64 n.kind,.int .i64 n.form,.str n.text,.int .i64 n.line,.int .i64 n.B7,.slice 6 (Cs n.kids) .any,
 .slice 4 (Av s.Ak) .any,.int .i64 s.pos,.slice 1 (ints s.CG) .any,.int .i64 s.wait,.int .i64 e]
section
variable {st:St} {R:AM→St→Prop}
attribute [local irreducible] Go.Aw.Ai
def dp:Rs→V
 | .inr (n,s)=>ji n s 0
 | .inl (e,s)=>ji MS s e
end
def rn:Rs→Nd
 | .inr p=>p.1
 | .inl _=>MS
def rs:Rs→Ae
 | .inr p=>p.2
 | .inl p=>p.2
def re:Rs→Int
 | .inr _=>0
 | .inl p=>p.1
theorem dr (q:Rs):dp q=ji (rn q) (rs q) (re q):=by cases q<;>rfl
def Rc (f:FuncId) (d:Int) (A:Ae→Rs):Prop:=∀s,mu s≤100000000→∀(st:St) (R:AM→St→Prop),R (.ret (dp (A s))) st→PC f [CN s,.int .i64 d] st R
theorem Rc.e {f:FuncId} {d x:Int} {A:Ae→Rs} (h:Rc f d A) (hx:x=d) {s:Ae} {q:Rs} (e:A s=q) (U:mu s≤100000000) {st:St} {R:AM→St→Prop} (k:R (.ret (dp q)) st):PC f [CN s,.int .i64 x] st R:=by
 subst hx;subst e;exact h s U st R k
theorem Rc.q {f:FuncId} {d x:Int} {A:Ae→Rs} (h:Rc f d A) (hx:x=d) {s:Ae} (U:mu s≤100000000) {st:St} {R:AM→St→Prop} (k:R (.ret (ji (rn (A s)) (rs (A s)) (re (A s)))) st):PC f [CN s,.int .i64 x] st R:=by
 subst hx;exact h s U st R (by rw [dr];exact k)
end Go.Proofs.YtkidoddkbhchkaaGreatDoor
namespace Go.Aw
theorem iv {b:Bool} {p q:Prop} (h:b=true) (k:p):A8 b p q:=Wk (fun _=>k) (fun e=>by rw [h] at e;cases e)
theorem iu {b:Bool} {p q:Prop} (h:b=false) (k:q):A8 b p q:=Wk (fun e=>by rw [h] at e;cases e) (fun _=>k)
theorem WG {k l c:Int} {t:List UInt8} {p q:Prop} (h:p):A8 (k==k&&(t==t&&(l==l&&(c==c&&true)))) p q:=iv (by simp) h
theorem WH {k l c:Int} {t:List UInt8} {p q:Prop} (h:q):A8 (!(k==k&&(t==t&&(l==l&&(c==c&&true))))) p q:=iu (by simp) h
theorem WI {l:List Int} {i:Int} {x:Int} {K:List V→Prop} (h:l[i.toNat]? =some x) (U:0≤i) (k:K [.int .i64 x]):0≤i∧∃e,(ints l)[i.toNat]? =some e∧K e:=⟨U,_,by simp [ints,h],k⟩
end Go.Aw
namespace Go.Proofs.YtkidoddkbhchkaaGreatDoor
open Go Go.Aw
section
variable {st:St} {R:AM→St→Prop}
attribute [local irreducible] Go.Aw.Ai
theorem aN:∀(m:Nat) {n:Nd} {st:St} {R:AM→St→Prop},n.size≤m→R (.ret (.bool true)) st→PC 24 [enc n,enc n] st R:=by
 intro m
 induction m with
 |zero=>intro n st R hm h;cases n;rw [Nd.size] at hm;omega
 |succ m ih=>
  intro n st R hm h
  refine Aa Ac [] Tryz.func24 rfl (by decide) ?_
  repeat' ((conv=>whnf);first|(with_reducible first|refine Wt rfl ?_|refine WG ?_|refine WH ?_|refine WI (by assumption) (by omega) ?_|exact Wa|exact Wb|exact Wc|refine Wd (by kernel_rfl) ?_|refine We ?_ ?_ ?_|refine W8 (by decide +kernel) ?_ ?_ ?_|refine W0 (by decide +kernel) ?_ ?_ ?_|refine W9 ?_ ?_ ?_|refine Wt (by first|assumption|omega) ?_|refine Wu (by first|assumption|omega) ?_|refine Wv (by omega) ?_|refine Ww (by omega) ?_|refine Wf (by decide) (fun _=>?_) (fun _=>?_)|refine Wg (fun _=>?_) (fun _=>?_)|refine Wh (fun _=>?_) (fun _=>?_)|refine Wi ?_|refine Wj ?_|refine Wk (fun _=>?_) (fun _=>?_)|refine Wl (fun _=>?_)|refine Wm (by assumption) (by omega) ?_|refine Wn (by omega) (by omega) (fun _ _ _=>?_)|refine Wq (by omega) (by omega) ?_|refine Wz (fun _=>?_)|refine WA (fun _=>?_)|refine WB (by assumption) (by omega) ?_|refine WC (by omega) (by omega) (fun _ _=>?_)|refine WD (by omega) (by omega) (fun _ _=>?_))|with_reducible refine WF ?_)
  refine Ll 5 [2,3] [0,1] n.kids.length (fun k=>k≤n.kids.length) (Nat.zero_le _) Yl ?_
  intro k hk
  by_cases U:k<n.kids.length
  ·obtain ⟨x,hx⟩:∃x,n.kids[(k:Int).toNat]? =some x:=⟨_,List.getElem?_eq_getElem U⟩
   have hxm:x ∈ n.kids:=List.mem_of_getElem? hx
   have hxs:=EB hxm
   repeat' ((conv=>whnf);first|(with_reducible first|refine Wt rfl ?_|refine WG ?_|refine WH ?_|refine WI (by assumption) (by omega) ?_|exact Wa|exact Wb|exact Wc|refine Wd (by kernel_rfl) ?_|refine We ?_ ?_ ?_|refine W8 (by decide +kernel) ?_ ?_ ?_|refine W0 (by decide +kernel) ?_ ?_ ?_|refine W9 ?_ ?_ ?_|refine Wt (by first|assumption|omega) ?_|refine Wu (by first|assumption|omega) ?_|refine Wv (by omega) ?_|refine Ww (by omega) ?_|refine Wf (by decide) (fun _=>?_) (fun _=>?_)|refine Wg (fun _=>?_) (fun _=>?_)|refine Wh (fun _=>?_) (fun _=>?_)|refine Wi ?_|refine Wj ?_|refine Wk (fun _=>?_) (fun _=>?_)|refine Wl (fun _=>?_)|refine Wm (by assumption) (by omega) ?_|refine Wn (by omega) (by omega) (fun _ _ _=>?_)|refine Wq (by omega) (by omega) ?_|refine Wz (fun _=>?_)|refine WA (fun _=>?_)|refine WB (by assumption) (by omega) ?_|refine WC (by omega) (by omega) (fun _ _=>?_)|refine WD (by omega) (by omega) (fun _ _=>?_))|refine ih (n:=x) (by omega) ?_|with_reducible refine WF ?_)
   all_goals conv=>whnf
   all_goals exact ⟨k+1,U,Nat.sub_lt_sub_left U (Nat.lt_succ_self k),Yl,St.le_refl _⟩
  ·skip
   repeat' ((conv=>whnf);first|(with_reducible first|refine Wt rfl ?_|refine WG ?_|refine WH ?_|refine WI (by assumption) (by omega) ?_|exact Wa|exact Wb|exact Wc|refine Wd (by kernel_rfl) ?_|refine We ?_ ?_ ?_|refine W8 (by decide +kernel) ?_ ?_ ?_|refine W0 (by decide +kernel) ?_ ?_ ?_|refine W9 ?_ ?_ ?_|refine Wt (by first|assumption|omega) ?_|refine Wu (by first|assumption|omega) ?_|refine Wv (by omega) ?_|refine Ww (by omega) ?_|refine Wf (by decide) (fun _=>?_) (fun _=>?_)|refine Wg (fun _=>?_) (fun _=>?_)|refine Wh (fun _=>?_) (fun _=>?_)|refine Wi ?_|refine Wj ?_|refine Wk (fun _=>?_) (fun _=>?_)|refine Wl (fun _=>?_)|refine Wm (by assumption) (by omega) ?_|refine Wn (by omega) (by omega) (fun _ _ _=>?_)|refine Wq (by omega) (by omega) ?_|refine Wz (fun _=>?_)|refine WA (fun _=>?_)|refine WB (by assumption) (by omega) ?_|refine WC (by omega) (by omega) (fun _ _=>?_)|refine WD (by omega) (by omega) (fun _ _=>?_))|with_reducible refine WF ?_)
   all_goals exact fin h rfl
theorem Uv {s:Ae} (h:R (.ret (.bool true)) st):PC 25 [CN s,CN s] st R:=by
 refine Aa Ac [] Tryz.func25 rfl (by decide) ?_
 repeat' ((conv=>whnf);first|(with_reducible first|refine Wt rfl ?_|refine WG ?_|refine WH ?_|refine WI (by assumption) (by omega) ?_|exact Wa|exact Wb|exact Wc|refine Wd (by kernel_rfl) ?_|refine We ?_ ?_ ?_|refine W8 (by decide +kernel) ?_ ?_ ?_|refine W0 (by decide +kernel) ?_ ?_ ?_|refine W9 ?_ ?_ ?_|refine Wt (by first|assumption|omega) ?_|refine Wu (by first|assumption|omega) ?_|refine Wv (by omega) ?_|refine Ww (by omega) ?_|refine Wf (by decide) (fun _=>?_) (fun _=>?_)|refine Wg (fun _=>?_) (fun _=>?_)|refine Wh (fun _=>?_) (fun _=>?_)|refine Wi ?_|refine Wj ?_|refine Wk (fun _=>?_) (fun _=>?_)|refine Wl (fun _=>?_)|refine Wm (by assumption) (by omega) ?_|refine Wn (by omega) (by omega) (fun _ _ _=>?_)|refine Wq (by omega) (by omega) ?_|refine Wz (fun _=>?_)|refine WA (fun _=>?_)|refine WB (by assumption) (by omega) ?_|refine WC (by omega) (by omega) (fun _ _=>?_)|refine WD (by omega) (by omega) (fun _ _=>?_))|with_reducible refine WF ?_)
 refine Ll 5 [2,3] [0,1] s.Ak.length (fun k=>k≤s.Ak.length) (Nat.zero_le _) Yl ?_
 intro k hk
 by_cases U:k<s.Ak.length
 ·obtain ⟨x,hx⟩:∃x,s.Ak[(k:Int).toNat]? =some x:=⟨_,List.getElem?_eq_getElem U⟩
  repeat' ((conv=>whnf);first|(with_reducible first|refine Wt rfl ?_|refine WG ?_|refine WH ?_|refine WI (by assumption) (by omega) ?_|exact Wa|exact Wb|exact Wc|refine Wd (by kernel_rfl) ?_|refine We ?_ ?_ ?_|refine W8 (by decide +kernel) ?_ ?_ ?_|refine W0 (by decide +kernel) ?_ ?_ ?_|refine W9 ?_ ?_ ?_|refine Wt (by first|assumption|omega) ?_|refine Wu (by first|assumption|omega) ?_|refine Wv (by omega) ?_|refine Ww (by omega) ?_|refine Wf (by decide) (fun _=>?_) (fun _=>?_)|refine Wg (fun _=>?_) (fun _=>?_)|refine Wh (fun _=>?_) (fun _=>?_)|refine Wi ?_|refine Wj ?_|refine Wk (fun _=>?_) (fun _=>?_)|refine Wl (fun _=>?_)|refine Wm (by assumption) (by omega) ?_|refine Wn (by omega) (by omega) (fun _ _ _=>?_)|refine Wq (by omega) (by omega) ?_|refine Wz (fun _=>?_)|refine WA (fun _=>?_)|refine WB (by assumption) (by omega) ?_|refine WC (by omega) (by omega) (fun _ _=>?_)|refine WD (by omega) (by omega) (fun _ _=>?_))|with_reducible refine WF ?_)
  all_goals conv=>whnf
  all_goals exact ⟨k+1,U,Nat.sub_lt_sub_left U (Nat.lt_succ_self k),Yl,St.le_refl _⟩
 ·skip
  repeat' ((conv=>whnf);first|(with_reducible first|refine Wt rfl ?_|refine WG ?_|refine WH ?_|refine WI (by assumption) (by omega) ?_|exact Wa|exact Wb|exact Wc|refine Wd (by kernel_rfl) ?_|refine We ?_ ?_ ?_|refine W8 (by decide +kernel) ?_ ?_ ?_|refine W0 (by decide +kernel) ?_ ?_ ?_|refine W9 ?_ ?_ ?_|refine Wt (by first|assumption|omega) ?_|refine Wu (by first|assumption|omega) ?_|refine Wv (by omega) ?_|refine Ww (by omega) ?_|refine Wf (by decide) (fun _=>?_) (fun _=>?_)|refine Wg (fun _=>?_) (fun _=>?_)|refine Wh (fun _=>?_) (fun _=>?_)|refine Wi ?_|refine Wj ?_|refine Wk (fun _=>?_) (fun _=>?_)|refine Wl (fun _=>?_)|refine Wm (by assumption) (by omega) ?_|refine Wn (by omega) (by omega) (fun _ _ _=>?_)|refine Wq (by omega) (by omega) ?_|refine Wz (fun _=>?_)|refine WA (fun _=>?_)|refine WB (by assumption) (by omega) ?_|refine WC (by omega) (by omega) (fun _ _=>?_)|refine WD (by omega) (by omega) (fun _ _=>?_))|with_reducible refine WF ?_)
  refine Ll 6 [2,3] [0,1] s.CG.length (fun k=>k≤s.CG.length) (Nat.zero_le _) Yl ?_
  intro k hk
  by_cases U:k<s.CG.length
  ·obtain ⟨x,hx⟩:∃x,s.CG[(k:Int).toNat]? =some x:=⟨_,List.getElem?_eq_getElem U⟩
   repeat' ((conv=>whnf);first|(with_reducible first|refine Wt rfl ?_|refine WG ?_|refine WH ?_|refine WI (by assumption) (by omega) ?_|exact Wa|exact Wb|exact Wc|refine Wd (by kernel_rfl) ?_|refine We ?_ ?_ ?_|refine W8 (by decide +kernel) ?_ ?_ ?_|refine W0 (by decide +kernel) ?_ ?_ ?_|refine W9 ?_ ?_ ?_|refine Wt (by first|assumption|omega) ?_|refine Wu (by first|assumption|omega) ?_|refine Wv (by omega) ?_|refine Ww (by omega) ?_|refine Wf (by decide) (fun _=>?_) (fun _=>?_)|refine Wg (fun _=>?_) (fun _=>?_)|refine Wh (fun _=>?_) (fun _=>?_)|refine Wi ?_|refine Wj ?_|refine Wk (fun _=>?_) (fun _=>?_)|refine Wl (fun _=>?_)|refine Wm (by assumption) (by omega) ?_|refine Wn (by omega) (by omega) (fun _ _ _=>?_)|refine Wq (by omega) (by omega) ?_|refine Wz (fun _=>?_)|refine WA (fun _=>?_)|refine WB (by assumption) (by omega) ?_|refine WC (by omega) (by omega) (fun _ _=>?_)|refine WD (by omega) (by omega) (fun _ _=>?_))|with_reducible refine WF ?_)
   all_goals conv=>whnf
   all_goals exact ⟨k+1,U,Nat.sub_lt_sub_left U (Nat.lt_succ_self k),Yl,St.le_refl _⟩
  ·skip
   repeat' ((conv=>whnf);first|(with_reducible first|refine Wt rfl ?_|refine WG ?_|refine WH ?_|refine WI (by assumption) (by omega) ?_|exact Wa|exact Wb|exact Wc|refine Wd (by kernel_rfl) ?_|refine We ?_ ?_ ?_|refine W8 (by decide +kernel) ?_ ?_ ?_|refine W0 (by decide +kernel) ?_ ?_ ?_|refine W9 ?_ ?_ ?_|refine Wt (by first|assumption|omega) ?_|refine Wu (by first|assumption|omega) ?_|refine Wv (by omega) ?_|refine Ww (by omega) ?_|refine Wf (by decide) (fun _=>?_) (fun _=>?_)|refine Wg (fun _=>?_) (fun _=>?_)|refine Wh (fun _=>?_) (fun _=>?_)|refine Wi ?_|refine Wj ?_|refine Wk (fun _=>?_) (fun _=>?_)|refine Wl (fun _=>?_)|refine Wm (by assumption) (by omega) ?_|refine Wn (by omega) (by omega) (fun _ _ _=>?_)|refine Wq (by omega) (by omega) ?_|refine Wz (fun _=>?_)|refine WA (fun _=>?_)|refine WB (by assumption) (by omega) ?_|refine WC (by omega) (by omega) (fun _ _=>?_)|refine WD (by omega) (by omega) (fun _ _=>?_))|with_reducible refine WF ?_)
   all_goals exact fin h rfl
theorem W6 {l:List Tk} {o1 o2:AO} (h:R (.ret (.bool true)) st):PC 37 [.slice 4 (Av l) o1,.slice 4 (Av l) o2] st R:=by
 refine Aa Ac [] Tryz.func37 rfl (by decide) ?_
 repeat' ((conv=>whnf);first|(with_reducible first|refine Wt rfl ?_|refine WG ?_|refine WH ?_|refine WI (by assumption) (by omega) ?_|exact Wa|exact Wb|exact Wc|refine Wd (by kernel_rfl) ?_|refine We ?_ ?_ ?_|refine W8 (by decide +kernel) ?_ ?_ ?_|refine W0 (by decide +kernel) ?_ ?_ ?_|refine W9 ?_ ?_ ?_|refine Wt (by first|assumption|omega) ?_|refine Wu (by first|assumption|omega) ?_|refine Wv (by omega) ?_|refine Ww (by omega) ?_|refine Wf (by decide) (fun _=>?_) (fun _=>?_)|refine Wg (fun _=>?_) (fun _=>?_)|refine Wh (fun _=>?_) (fun _=>?_)|refine Wi ?_|refine Wj ?_|refine Wk (fun _=>?_) (fun _=>?_)|refine Wl (fun _=>?_)|refine Wm (by assumption) (by omega) ?_|refine Wn (by omega) (by omega) (fun _ _ _=>?_)|refine Wq (by omega) (by omega) ?_|refine Wz (fun _=>?_)|refine WA (fun _=>?_)|refine WB (by assumption) (by omega) ?_|refine WC (by omega) (by omega) (fun _ _=>?_)|refine WD (by omega) (by omega) (fun _ _=>?_))|with_reducible refine WF ?_)
 refine Ll 5 [0,1] [] l.length (fun k=>k≤l.length) (Nat.zero_le _) Yl ?_
 intro k hk
 by_cases U:k<l.length
 ·obtain ⟨x,hx⟩:∃x,l[(k:Int).toNat]? =some x:=⟨_,List.getElem?_eq_getElem U⟩
  repeat' ((conv=>whnf);first|(with_reducible first|refine Wt rfl ?_|refine WG ?_|refine WH ?_|refine WI (by assumption) (by omega) ?_|exact Wa|exact Wb|exact Wc|refine Wd (by kernel_rfl) ?_|refine We ?_ ?_ ?_|refine W8 (by decide +kernel) ?_ ?_ ?_|refine W0 (by decide +kernel) ?_ ?_ ?_|refine W9 ?_ ?_ ?_|refine Wt (by first|assumption|omega) ?_|refine Wu (by first|assumption|omega) ?_|refine Wv (by omega) ?_|refine Ww (by omega) ?_|refine Wf (by decide) (fun _=>?_) (fun _=>?_)|refine Wg (fun _=>?_) (fun _=>?_)|refine Wh (fun _=>?_) (fun _=>?_)|refine Wi ?_|refine Wj ?_|refine Wk (fun _=>?_) (fun _=>?_)|refine Wl (fun _=>?_)|refine Wm (by assumption) (by omega) ?_|refine Wn (by omega) (by omega) (fun _ _ _=>?_)|refine Wq (by omega) (by omega) ?_|refine Wz (fun _=>?_)|refine WA (fun _=>?_)|refine WB (by assumption) (by omega) ?_|refine WC (by omega) (by omega) (fun _ _=>?_)|refine WD (by omega) (by omega) (fun _ _=>?_))|with_reducible refine WF ?_)
  all_goals conv=>whnf
  all_goals exact ⟨k+1,U,Nat.sub_lt_sub_left U (Nat.lt_succ_self k),Yl,St.le_refl _⟩
 ·skip
  repeat' ((conv=>whnf);first|(with_reducible first|refine Wt rfl ?_|refine WG ?_|refine WH ?_|refine WI (by assumption) (by omega) ?_|exact Wa|exact Wb|exact Wc|refine Wd (by kernel_rfl) ?_|refine We ?_ ?_ ?_|refine W8 (by decide +kernel) ?_ ?_ ?_|refine W0 (by decide +kernel) ?_ ?_ ?_|refine W9 ?_ ?_ ?_|refine Wt (by first|assumption|omega) ?_|refine Wu (by first|assumption|omega) ?_|refine Wv (by omega) ?_|refine Ww (by omega) ?_|refine Wf (by decide) (fun _=>?_) (fun _=>?_)|refine Wg (fun _=>?_) (fun _=>?_)|refine Wh (fun _=>?_) (fun _=>?_)|refine Wi ?_|refine Wj ?_|refine Wk (fun _=>?_) (fun _=>?_)|refine Wl (fun _=>?_)|refine Wm (by assumption) (by omega) ?_|refine Wn (by omega) (by omega) (fun _ _ _=>?_)|refine Wq (by omega) (by omega) ?_|refine Wz (fun _=>?_)|refine WA (fun _=>?_)|refine WB (by assumption) (by omega) ?_|refine WC (by omega) (by omega) (fun _ _=>?_)|refine WD (by omega) (by omega) (fun _ _=>?_))|with_reducible refine WF ?_)
  all_goals exact fin h rfl
end
mutual
def BE:Nd→List Tk
 | .mk k f t l c ks=>if k=1 then [⟨f,t,l,c⟩] else A9 ks
def A9:List Nd→List Tk
 |[]=>[]
 |n::r=>BE n++A9 r
end
theorem EH:∀{a b:List Nd},A9 (a++b)=A9 a++A9 b
 |[],b=>rfl
 |n::r,b=>by rw [List.cons_append,A9,A9,EH,List.append_assoc]
theorem RY (t:Tk):BE (AJ t)=[t]:=rfl
theorem RZ {k:Int} {l:List Nd} (h:¬k=1):BE (AD k l)=A9 l:=by unfold AD;rw [BE,if_neg h]
theorem Fc {n:Nd}:A9 [n]=BE n:=by rw [A9,A9,List.append_nil]
inductive Path:Ae→List Tk→Ae→Prop where
 |nil (s:Ae):Path s [] s
 |cons {s:Ae} {l:List Tk} {t:Ae}:(Ad s).2.2=0→mu (Ad s).2.1<mu s→Path (Ad s).2.1 l t→Path s ((Ad s).1::l) t
theorem Path.trans {s t u:Ae} {l m:List Tk} (h:Path s l t) (k:Path t m u):Path s (l++m) u:=by
 induction h with
 |nil s=>exact k
 |cons U h2 _ ih=>exact .cons U h2 (ih k)
theorem Path.one {s:Ae} (U:(Ad s).2.2=0) (h2:mu (Ad s).2.1<mu s):Path s [(Ad s).1] (Ad s).2.1:=.cons U h2 (.nil _)
theorem Path.is {s:Ae} {k:Int} {x:List UInt8} (h:Ba s k x=true) (U:k≠0) (h1:k≠21):Path s [(Ad s).1] (Ad s).2.1:=.one (GC h U) (CJ h U h1)
variable {A:Ae→Rs}
theorem fN (l:List Nd) (s:Ae):∀q s',EU A l s=.inr (q,s')→∃r,q=l++r:=by
 fun_induction EU A l s with
 |case1 l s U e1 h2=>intro q s' h;cases h
 |case2 l s U p h2 h3 ih=>intro q s' h;obtain ⟨r,e⟩:=ih q s' h;exact ⟨[p.1]++r,by rw [e,List.append_assoc]⟩
 |case3 l s U p h2 h3=>intro q s' h;cases h
 |case4 l s U=>intro q s' h;cases h;exact ⟨[],(List.append_nil _).symm⟩
section
variable {st:St} {R:AM→St→Prop}
attribute [local irreducible] Go.Aw.Ai
theorem Sy {a b:List Nd}:C6 (a++b)=C6 a+C6 b:=by
 induction a with
 |nil=>simp [C6]
 |cons x r U=>rw [List.cons_append,C6,C6,U];omega
end
def gV (k:Int):Nat:=if k=1 then 3 else if k=30 then 2 else 1
def M3:List Nd→Nat
 |[]=>0
 |n::r=>gV n.kind+M3 r
theorem kM (k:Int):1≤gV k:=by
 unfold gV
 (repeat' split)<;>omega
theorem IC:∀{a b:List Nd},M3 (a++b)=M3 a+M3 b
 |[],b=>by rw [List.nil_append,M3,Nat.zero_add]
 |n::r,b=>by rw [List.cons_append,M3,M3,IC];omega
theorem NY:∀{l:List Nd},l.length≤M3 l
 |[]=>Nat.le_refl _
 |n::r=>by have:=NY (l:=r);have:=kM n.kind;rw [M3,List.length_cons];omega
def Ge (t:Tk):Bool:=t.kind==18||t.kind==19||t.kind==20||(t.kind==15&&(t.text==[123]||t.text==[125]||t.text==[59]))
inductive A1:List Nd→Ae→Ae→Prop where
 |nil (s:Ae):A1 [] s s
 |app {l m:List Nd} {s s1 s2:Ae}:A1 l s s1→A1 m s1 s2→A1 (l++m) s s2
 |tok {s:Ae}:(Ad s).2.2=0→(Ad s).1.kind<18→(Ad s).1.kind≠0→A1 [AJ (Ad s).1] s (Ad s).2.1
 |skip {s:Ae}:(Ad s).2.2=0→Ge (Ad s).1=true→A1 [] s (Ad s).2.1
 |close {s:Ae}:(DH s).2=true→A1 [] s (DH s).1
 |node {k:Int} {l:List Nd} {s s':Ae}:A1 l s s'→k≠1→1+gV k≤M3 l→A1 [AD k l] s s'
 |block {f:Bool} {l:List Nd} {s s':Ae}:(Ad s).2.2=0→Ge (Ad s).1=true→A1 l (Ad s).2.1 s'→A1 [EK f l] s s'
theorem Lh {t:Tk} (h:Ge t=true):t.kind≠0∧t.kind≠21:=by
 unfold Ge at h
 simp only [Bool.or_eq_true,Bool.and_eq_true,beq_iff_eq] at h
 omega
theorem A1.size {l:List Nd} {s s':Ae} (h:A1 l s s'):C6 l+M3 l+4*mu s'≤4*mu s:=by
 induction h with
 |nil s=>simp only [C6,M3];omega
 |app _ _ U h2=>rw [Sy,IC];omega
 |tok U h2 h3=>
  rename_i s
  have:=(EI U).2 (by omega)
  have e:C6 [AJ (Ad s).1]+M3 [AJ (Ad s).1]=4:=rfl
  omega
 |skip U h2=>have:=(EI U).1;simp only [C6,M3];omega
 |close U=>have:=L1 U;simp only [C6,M3];omega
 |node U h2 h3 ih=>
  rename_i k l s s'
  have e:C6 [AD k l]+M3 [AD k l]=(1+C6 l+0)+(gV k+0):=by simp only [AD,C6,Nd.size,M3];rfl
  omega
 |block U h2 h3 ih=>
  rename_i f l s s'
  have:=(EI U).2 (Lh h2).2
  have e:C6 [EK f l]+M3 [EK f l]=(1+C6 l+0)+(1+0):=by simp only [EK,C6,Nd.size,M3];rfl
  omega
theorem A1.lW {n:Nd} {s s':Ae} (h:A1 [n] s s'):n.size+4*mu s'≤4*mu s:=by
 have:=h.size
 simp only [C6] at this
 omega
theorem A1.two {k:Int} {l:List Nd} {s s':Ae} (h:A1 l s s') (hk:k≠1) (U:k≠30) (hl:2≤l.length):A1 [AD k l] s s':=
 .node h hk (by have:=NY (l:=l);unfold gV;rw [if_neg hk,if_neg U];omega)
theorem A1.is {s:Ae} {k:Int} {x:List UInt8} (h:Ba s k x=true) (U:k≠0) (h1:k<18):A1 [AJ (Ad s).1] s (Ad s).2.1:=by
 have e:(Ad s).1.kind=k:=by
  unfold Ba at h
  simp only [Bool.and_eq_true,beq_iff_eq] at h
  exact h.1
 exact .tok (GC h U) (by omega) (by omega)
theorem A1.cons {n:Nd} {l:List Nd} {s s1 s2:Ae} (h:A1 [n] s s1) (k:A1 l s1 s2):A1 (n::l) s s2:=.app h k
theorem A1.snoc {n:Nd} {l:List Nd} {s s1 s2:Ae} (h:A1 l s s1) (k:A1 [n] s1 s2):A1 (l++[n]) s s2:=.app h k
theorem A1.one {k:Int} {l:List Nd} {s s':Ae} (h:A1 l s s') (hk:k≠1) (U:k≠30) (hl:1≤l.length):A1 [Qh k l] s s':=by
 unfold Qh
 split
 ·match l,‹l.length=1› with
  |[x],_=>exact h
 ·exact h.two hk U (by omega)
def C9 (A:Ae→Rs):Prop:=∀s n s',A s=.inr (n,s')→A1 [n] s s'
variable {A:Ae→Rs}
theorem J6 {t:Tk} (h:BP t=true):t.kind≠0∧t.kind<18:=by
 unfold BP at h
 simp only [Bool.or_eq_true,Bool.and_eq_true,beq_iff_eq] at h
 omega
theorem Ry {s:Ae} {n:Nd} {s':Ae} (hs:BP (Ad s).1=true) (h:C7 s=.inr (n,s')):A1 [n] s s':=by
 have U:=J6 hs
 unfold C7 at h
 split at h
 ·rename_i e;cases h;exact .tok e U.2 U.1
 ·cases h
theorem iS {s:Ae} {k:Int} {x:List UInt8} {n:Nd} {s':Ae} (U:k≠0) (h1:k<18) (h:JE s k x=.inr (n,s')):A1 [n] s s':=by
 unfold JE at h
 split at h
 ·rename_i e
  rw [Gn e U] at h
  cases h
  exact .is e U h1
 ·cases h
theorem OB {s:Ae} {k:Int} {l:List Nd} {x:List UInt8} {n:Nd} {s0 s':Ae} (hk:k≠1) (U:k≠30) (hl:1≤l.length) (h0:A1 l s0 s) (h:GP k l s x=.inr (n,s')):A1 [n] s0 s':=by
 unfold GP at h
 split at h
 ·cases h
 ·rename_i p hp
  cases h
  exact (h0.snoc (iS (by decide) (by decide) hp)).two hk U (by rw [List.length_append,List.length_singleton];omega)
theorem iR (hA:C9 A) (l:List Nd) (s:Ae):∀s0 q s',A1 l s0 s→EU A l s=.inr (q,s')→A1 q s0 s':=by
 fun_induction EU A l s with
 |case1 l s h1 e1 h2=>intro s0 q s' U h;cases h
 |case2 l s h1 p h2 h3 ih=>intro s0 q s' U h;exact ih s0 q s' (U.snoc (hA s p.1 p.2 h2)) h
 |case3 l s h1 p h2 h3=>intro s0 q s' U h;cases h
 |case4 l s h1=>intro s0 q s' U h;cases h;exact U
theorem Vs (hA:C9 A):C9 (Ft A):=fun s n s' h=>by
 unfold Ft at h
 split at h
 ·cases h
 ·rename_i p hp
  have h1:=hA s p.1 p.2 hp
  split at h
  ·cases h
  ·rename_i q hq
   have h2:=iR hA _ _ _ _ _ h1 hq
   obtain ⟨r,U⟩:=fN _ _ _ _ hq
   split at h
   ·rename_i hl
    cases h
    have:r=[]:=by
     rw [U,List.length_append,List.length_singleton] at hl
     exact List.eq_nil_iff_length_eq_zero.2 (by omega)
    rw [this,List.append_nil] at U
    rw [U] at h2;exact h2
   ·rename_i hl
    cases h
    exact h2.two (by decide) (by decide) (by rw [U,List.length_append,List.length_singleton] at *;omega)
theorem iP (hA:C9 A) (l:List Nd) (s:Ae):∀s0 q s',A1 l s0 s→E5 A l s=.inr (q,s')→A1 q s0 s'∧∃r,q=l++r:=by
 fun_induction E5 A l s with
 |case1 l s h1 e1 h2=>intro s0 q s' U h;cases h
 |case2 l s h1 p h2 h3 ih=>
  intro s0 q s' U h
  obtain ⟨k1,r,k2⟩:=ih s0 q s' (.app U (.cons (.is h1 (by decide) (by decide)) (Vs hA _ p.1 p.2 h2))) h
  exact ⟨k1,_,by rw [k2,List.append_assoc]⟩
 |case3 l s h1 p h2 h3=>intro s0 q s' U h;cases h
 |case4 l s h1=>intro s0 q s' U h;cases h;exact ⟨U,[],(List.append_nil _).symm⟩
theorem QA (hA:C9 A) {n n':Nd} {s0 s s':Ae} (h0:A1 [n] s0 s) (h:Cw A n s=.inr (n',s')):A1 [n'] s0 s':=by
 unfold Cw at h
 split at h
 ·cases h
 ·rename_i q hq
  obtain ⟨k1,r,U⟩:=iP hA _ _ _ _ _ h0 hq
  split at h
  ·rename_i hl
   cases h
   have:r=[]:=by
    rw [U,List.length_append,List.length_singleton] at hl
    exact List.eq_nil_iff_length_eq_zero.2 (by omega)
   rw [this,List.append_nil] at U
   rw [U] at k1;exact k1
  ·rename_i hl
   cases h
   exact k1.two (by decide) (by decide) (by rw [U,List.length_append,List.length_singleton] at *;omega)
theorem Th (U:C9 A):C9 (Dg A):=fun s n s' h=>by
 unfold Dg at h
 split at h
 ·cases h
 ·rename_i p hp
  exact QA U (Vs U _ p.1 p.2 hp) h
theorem iQ (U:C9 A):C9 (Eg A):=fun s n s' h=>by
 unfold Eg at h
 split at h
 ·cases h
 ·rename_i p hp
  have h1:=Vs U _ p.1 p.2 hp
  split at h
  ·rename_i hi
   split at h
   ·cases h
   ·rename_i q hq
    cases h
    exact (h1.cons (.cons (.is hi (by decide) (by decide)) (Th U _ q.1 q.2 hq))).two (by decide) (by decide) (Nat.le_of_ble_eq_true rfl)
  ·exact QA U h1 h
theorem Zz (hA:C9 A) (l:List Nd) (s:Ae):∀s0 q s',A1 l s0 s→1≤l.length→BT A l s=.inr (q,s')→A1 q s0 s'∧1≤q.length:=by
 fun_induction BT A l s with
 |case1 l s h1 e1 h2=>intro s0 q s' U hl h;cases h
 |case2 l s h1 p h2 h3 ih=>
  intro s0 q s' U hl h
  exact ih s0 q s' (.app U (.cons (.is h1 (by decide) (by decide)) (hA _ p.1 p.2 h2))) (by rw [List.length_append];omega) h
 |case3 l s h1 p h2 h3=>intro s0 q s' U hl h;cases h
 |case4 l s h1=>intro s0 q s' U hl h;cases h;exact ⟨U,hl⟩
theorem cS (l:List Nd) (s:Ae):∀s0,A1 l s0 s→1≤l.length→A1 (B2 l s).1 s0 (B2 l s).2∧1≤(B2 l s).1.length:=by
 fun_induction B2 l s with
 |case1 l s h1 h2 ih=>intro s0 U hl;exact ih s0 (U.snoc (.is h1 (by decide) (by decide))) (by rw [List.length_append];omega)
 |case2 l s h1 h2=>intro s0 U hl;exact ⟨U,hl⟩
 |case3 l s h1=>intro s0 U hl;exact ⟨U,hl⟩
theorem cT (hA:C9 A) {s:Ae} {n:Nd} {s':Ae} (hs:BP (Ad s).1=true) (h:DV A s=.inr (n,s')):A1 [n] s s':=by
 unfold DV at h
 split at h
 ·cases h
 ·rename_i p hp
  have U:=Ry hs (n:=p.1) (s':=p.2) hp
  split at h
  ·rename_i hi
   exact OB (by decide) (by decide) (Nat.le_of_ble_eq_true rfl) (U.cons (.is hi (by decide) (by decide))) h
  split at h
  ·exact OB (by decide) (by decide) (Nat.le_of_ble_eq_true rfl) U h
  split at h
  ·obtain ⟨k1,k2⟩:=cS [p.1] p.2 s U (Nat.le_of_ble_eq_true rfl)
   exact OB (by decide) (by decide) k2 k1 h
  split at h
  ·cases h
  ·rename_i q hq
   have h2:=hA _ q.1 q.2 hq
   split at h
   ·cases h
   ·rename_i r hr
    obtain ⟨k1,k2⟩:=Zz hA _ _ _ _ _ (U.cons h2) (Nat.le_of_ble_eq_true rfl) hr
    exact OB (by split<;>decide) (by split<;>decide) k2 k1 h
theorem Zy (hA:C9 A) {s:Ae} {n:Nd} {s':Ae} (hs:BP (Ad s).1=true) (h:C0 A s=.inr (n,s')):A1 [n] s s':=by
 unfold C0 at h
 split at h
 ·cases h
 ·rename_i p hp
  have U:=Ry hs (n:=p.1) (s':=p.2) hp
  split at h
  ·rename_i hi
   cases h
   exact (U.cons (.is hi (by decide) (by decide))).two (by decide) (by decide) (Nat.le_of_ble_eq_true rfl)
  split at h
  ·cases h
  ·rename_i q hq
   exact OB (by decide) (by decide) (Nat.le_of_ble_eq_true rfl) (U.cons (hA _ q.1 q.2 hq)) h
theorem XO (hA:C9 A):C9 (C3 A):=fun s n s' h=>by
 unfold C3 at h
 split at h
 ·rename_i U
  split at h
  ·split at h
   ·exact cT hA U h
   ·exact Zy hA U h
  ·exact Ry U h
 ·cases h
theorem XP:∀d,C9 (DD d)
 |0=>fun s n s' h=>by cases h
 |d+1=>Th (XO (XP d))
end Go.Proofs.YtkidoddkbhchkaaGreatDoor
