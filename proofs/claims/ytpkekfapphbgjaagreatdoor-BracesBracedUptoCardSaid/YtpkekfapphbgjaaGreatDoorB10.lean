/-
  Parts of a proof: lemmas that the last text uses.
-/
import Derived.Test.YtpkekfapphbgjaaGreatDoorB9
import Derived.Lib.AppendStr
import Derived.Laws.BytesString
open Go.Proofs.YtpkekfapphbgjaaGreatDoor
set_option linter.unusedVariables false
set_option linter.unusedSimpArgs false
set_option maxHeartbeats 16000000
variable {l s:List UInt8} {n:Go.Aw.Nd} {t u el:Go.TypeId} {e x:Int} {p:Int×Nat} {o:Go.Aw.AA} {all post:List Go.Oper} {oc:Go.Oper} {K:Go.Aw.V->Go.Aw.St->Prop} {i:Nat} {m:Go.Aw.St}
namespace Go.Proofs.Z
open Go Go.Aw
def nJ (s:List UInt8) (notes:List Nt) (q:Nd×Al×Int):Nd×List Nt×Int×Int×Int:=
 if q.2.2=0 then (q.1,notes,0,0,0) else if (Oq q.2.1).1=0 then (q.1,[],(CD s s.length).1,(CD s s.length).2,q.2.2) else (q.1,[],(Oq q.2.1).1,(Oq q.2.1).2,q.2.2)
def Dg (s:List UInt8):Nd×List Nt×Int×Int×Int:=match F4 s with
 | .inl q=>(Kj,[],(CD s q.1.toNat).1,(CD s q.1.toNat).2,q.2)
 | .inr x=>nJ s x.notes (Ce ⟨F7 x.AV,0,[],0⟩ 100 (CT (Ff 100) ⟨F7 x.AV,0,[],0⟩))
section
attribute [local irreducible] B0 Rd.ret Rd.seq Rd.look Rd.loop Rd.fail Rd.Ge
theorem cZ {P:Al->Prop} (N:Iv P):B0 P Kf:=kp
theorem Qr {P:Al->Prop} (N:Iv P) (d:Nat):B0 P (Ff d):=by
 have U:=cZ N
 have h2:=YI N d
 unfold Ff
 exact kp
end
theorem nL {l:List Tk} {t:Al} (h:Ce ⟨l,0,[],0⟩ 100 (CT (Ff 100) ⟨l,0,[],0⟩)=(n,t,e)):t.AV=l/\0<=t.pos:=by
 unfold Ce at h
 rw [if_neg Do] at h
 unfold CT at h
 cases U:(Ff 100).run ⟨l,0,[],0⟩ with
 |inl p=>
  rw [U] at h
  cases h
  exact (Qr (aE l) 100).inl ⟨rfl,Int.le_refl _⟩ U
 |inr p=>
  rw [U] at h
  cases h
  exact (Qr (aE l) 100).inr ⟨rfl,Int.le_refl _⟩ U
section
variable {st:St} {R:At->St->Prop}
attribute [local irreducible] Go.Aw.Ag
theorem QS {b1 b3 b4 b5 b6 b7 n:Nat} {l c:Int} {w:AA} {es:List (List V)} {U:St->Prop} (hl:s.length<=16000) (hn:n<=s.length) (k6:st.box b6=some [.int .i64 e]) (k4:st.box b4=some [.int .i64 l]) (k1:st.box b1=some [.str s]) (k7:st.box b7=some [.int .i64 (n:Int)]) (k5:st.box b5=some [.int .i64 c]) (k3:st.box b3=some [.slice 5 es w])
 (n45:b4≠b5) (n43:b4≠b3) (n53:b5≠b3) (h0:e=0\/l≠0->U st) (h1:e≠0->l=0->U (((st.Aa b4 [.int .i64 (CD s n).1]).Aa b5 [.int .i64 (CD s n).2]).Aa b3 [.slice 5 [] .full])):
 GM Tryz.prog 38 [.ptr b6 0,.ptr b4 0,.ptr b1 0,.ptr b7 0,.ptr b5 0,.ptr b3 0] none st U:=by
 refine Tm Ab [] Tryz.func38 rfl rfl ?_
 have hof:∀{st:St} {R:At->St->Prop},R (.ret (.Bj [.int .i64 (CD s n).1,.int .i64 (CD s n).2,.int .i64 0])) st->PC 39 [.str s,.int .i64 (n:Int)] st R:=λh=>tE AC hn h
 have k5':∀D,(st.Aa b4 D).box b5=some [.int .i64 c]:=λD=>by rw [St.Ak n45];exact k5
 have k3':∀D E,((st.Aa b4 D).Aa b5 E).box b3=some [.slice 5 es w]:=λD E=>by rw [St.Ak n53,St.Ak n43];exact k3
 refine Ae Ab ?_
 repeat' ((conv=>whnf);first|  (refine CZ ?_ ?_<;>intro _)|refine hof ?_|refine Ah k6 ?_|refine Ah k4 ?_|refine Ah k1 ?_|refine Ah k7 ?_|refine Ah (k5' _) ?_|refine Ah (k3' _ _) ?_)
 all_goals conv=>whnf
 all_goals first|exact h1 ‹_› ‹_›|exact h1 AC (by omega)|exact h0 AC
theorem nK {l:List Nt} {t:Al}:nJ s l (n,t,0)=(n,l,0,0,0):=if_pos rfl
structure PN (b1 b3 b4 b5 b6 b7:Nat):Prop where
 n13:b1≠b3
 n14:b1≠b4
 n15:b1≠b5
 n16:b1≠b6
 n17:b1≠b7
 n34:b3≠b4
 n35:b3≠b5
 n36:b3≠b6
 n37:b3≠b7
 n45:b4≠b5
 n46:b4≠b6
 rv:b4≠b7
 sF:b5≠b6
 ry:b5≠b7
 rz:b6≠b7
structure PB (st0 st:St) (b1 b3 b4 b5 b6 b7:Nat) (s:List UInt8) (es:List (List V)) (w:AA) (l c e n:Int):Prop where
 k1:st.box b1=some [.str s]
 k3:st.box b3=some [.slice 5 es w]
 k4:st.box b4=some [.int .i64 l]
 k5:st.box b5=some [.int .i64 c]
 k6:st.box b6=some [.int .i64 e]
 k7:st.box b7=some [.int .i64 n]
 le:st0.le st
 f3:st0.box b3=none
 f4:st0.box b4=none
 f5:st0.box b5=none
 f6:st0.box b6=none
 f7:st0.box b7=none
section
variable {st0 st st':St} {b1 b3 b4 b5 b6 b7:Nat} {s:List UInt8} {es:List (List V)} {w:AA} {l c e n:Int}
theorem PB.mono (h:PB st0 st b1 b3 b4 b5 b6 b7 s es w l c e n) (k:st.le st'):PB st0 st' b1 b3 b4 b5 b6 b7 s es w l c e n:=⟨k.1 _ _ h.k1,k.1 _ _ h.k3,k.1 _ _ h.k4,k.1 _ _ h.k5,k.1 _ _ h.k6,k.1 _ _ h.k7,St.le_trans h.le k,h.f3,h.f4,h.f5,h.f6,h.f7⟩
theorem PB.s3 (h:PB st0 st b1 b3 b4 b5 b6 b7 s es w l c e n) (N:PN b1 b3 b4 b5 b6 b7) {es2:List (List V)} {w2:AA}:PB st0 (st.Aa b3 [.slice 5 es2 w2]) b1 b3 b4 b5 b6 b7 s es2 w2 l c e n:=⟨by rw [St.Ak N.n13.symm];exact h.k1,St.Ai ..,by rw [St.Ak N.n34];exact h.k4,by rw [St.Ak N.n35];exact h.k5,by rw [St.Ak N.n36];exact h.k6,by rw [St.Ak N.n37];exact h.k7,St.Aj h.le h.f3 _,h.f3,h.f4,h.f5,h.f6,h.f7⟩
theorem PB.s4 (h:PB st0 st b1 b3 b4 b5 b6 b7 s es w l c e n) (N:PN b1 b3 b4 b5 b6 b7):PB st0 (st.Aa b4 [.int .i64 x]) b1 b3 b4 b5 b6 b7 s es w x c e n:=⟨by rw [St.Ak N.n14.symm];exact h.k1,by rw [St.Ak N.n34.symm];exact h.k3,St.Ai ..,by rw [St.Ak N.n45];exact h.k5,by rw [St.Ak N.n46];exact h.k6,by rw [St.Ak N.rv];exact h.k7,St.Aj h.le h.f4 _,h.f3,h.f4,h.f5,h.f6,h.f7⟩
theorem PB.s5 (h:PB st0 st b1 b3 b4 b5 b6 b7 s es w l c e n) (N:PN b1 b3 b4 b5 b6 b7):PB st0 (st.Aa b5 [.int .i64 x]) b1 b3 b4 b5 b6 b7 s es w l x e n:=⟨by rw [St.Ak N.n15.symm];exact h.k1,by rw [St.Ak N.n35.symm];exact h.k3,by rw [St.Ak N.n45.symm];exact h.k4,St.Ai ..,by rw [St.Ak N.sF];exact h.k6,by rw [St.Ak N.ry];exact h.k7,St.Aj h.le h.f5 _,h.f3,h.f4,h.f5,h.f6,h.f7⟩
theorem PB.s6 (h:PB st0 st b1 b3 b4 b5 b6 b7 s es w l c e n) (N:PN b1 b3 b4 b5 b6 b7):PB st0 (st.Aa b6 [.int .i64 x]) b1 b3 b4 b5 b6 b7 s es w l c x n:=⟨by rw [St.Ak N.n16.symm];exact h.k1,by rw [St.Ak N.n36.symm];exact h.k3,by rw [St.Ak N.n46.symm];exact h.k4,by rw [St.Ak N.sF.symm];exact h.k5,St.Ai ..,by rw [St.Ak N.rz];exact h.k7,St.Aj h.le h.f6 _,h.f3,h.f4,h.f5,h.f6,h.f7⟩
theorem PB.s7 (h:PB st0 st b1 b3 b4 b5 b6 b7 s es w l c e n) (N:PN b1 b3 b4 b5 b6 b7):PB st0 (st.Aa b7 [.int .i64 x]) b1 b3 b4 b5 b6 b7 s es w l c e x:=⟨by rw [St.Ak N.n17.symm];exact h.k1,by rw [St.Ak N.n37.symm];exact h.k3,by rw [St.Ak N.rv.symm];exact h.k4,by rw [St.Ak N.ry.symm];exact h.k5,by rw [St.Ak N.rz.symm];exact h.k6,St.Ai ..,St.Aj h.le h.f7 _,h.f3,h.f4,h.f5,h.f6,h.f7⟩
end
noncomputable def og:List Oper:=match Tryz.f16.body with|some (.seq _ (.seq _ (.seq _ (.seq _ (.seq (.seq _ (.cond _ (.seq _ (.seq (.region _ ops _) _)) _)) _)))))=>ops.toList|_=>[]
noncomputable def oh:List Oper:=match Tryz.f16.body with|some (.seq _ (.seq _ (.seq _ (.seq _ (.seq _ (.seq _ (.seq (.seq _ (.cond _ (.seq (.region _ ops _) _) _)) _)))))))=>ops.toList|_=>[]
noncomputable def jy:List Oper:=match Tryz.f16.body with|some (.seq _ (.seq _ (.seq _ (.seq _ (.seq _ (.seq _ (.seq _ (.seq _ (.seq (.region _ ops _) _)))))))))=>ops.toList|_=>[]
noncomputable def rL (nx:Nat) (ops:List Oper) (vs:List V) (b3 b4 b5 b6:Nat) (U:List V) (bs:List Bool):Env:=
 {tmps:=dE [(2,.B3 0 0),(3,.ptr b3 0),(4,.ptr b4 0),(5,.ptr b5 0),(6,.ptr b6 0)] ops vs bs,boxes:=[(0,U)],BG:=nx,sz:=63,gl:=[1,3,4,5,6,7]}
def jz:List (List Bool×Nat):=rI 7 [0,1,33,34,64,98,161,163,227,417,420,484,929,933,997,1953,2022]
def jA:List (List Bool×Nat):=rI 8 [0,1,2,33,34,35,64,66,128,129,98,99,161,163,289,290,192,227,354,356,417,484,866,869,997,1890,1894,2022,3938,4071]
def bg:List (List Bool×Nat):=rI 9 [0,1,2,3,33,34,35,36,64,66,67,128,129,131,256,257,258,98,99,100,161,163,164,289,290,292,545,546,547,549,192,195,320,322,384,385,227,228,354,356,610,611,613,417,420,673,675,677,801,802,805,1569,1570,1571,448,484,739,741,866,869,1634,1635,1638,929,933,1697,1699,1825,1826,997,1763,1766,1890,1894,3682,3683,1953,2022,3811,3815,3938,4071,7907,8168]
def rM (st:St) (b3:Nat) (bs:List Bool):St:=match bs[5]? with
 |some true=>st.Aa b3 [.slice 5 [] .full]
 |_=>st
theorem nZ (hl:s.length<=16000) (h:∀w st',st.le st'->R (.ret (.Bj [enc (Dg s).1,.slice 5 (GS (Dg s).2.1) w,.int .i64 (Dg s).2.2.1,.int .i64 (Dg s).2.2.2.1,.int .i64 (Dg s).2.2.2.2])) st'):PC 16 [.str s] st R:=by
 refine A0.ends (IV Ab [1,3,4,5,6,7] Tryz.func16 rfl Do rfl rfl rfl rfl rfl rfl ⟨_,Tryz.func38,rfl,Do⟩ rfl ?_)
 repeat' ((conv=>whnf);first|exact B1|(refine A1 ?_;intros)|(refine B2 ?_ ?_ ?_;rotate_left)|refine IL (λb6 f6=>?_)|fail)
 rename_i b1 f1 b3 f3 b4 f4 b5 f5
 obtain ⟨n13,f3a⟩:=A6 f3
 obtain ⟨n34,f4a⟩:=A6 f4
 obtain ⟨n14,f4b⟩:=A6 f4a
 obtain ⟨n45,f5a⟩:=A6 f5
 obtain ⟨n35,f5b⟩:=A6 f5a
 obtain ⟨n15,f5c⟩:=A6 f5b
 obtain ⟨sF,f6a⟩:=A6 f6
 obtain ⟨n46,f6b⟩:=A6 f6a
 obtain ⟨n36,f6c⟩:=A6 f6b
 obtain ⟨n16,f6d⟩:=A6 f6c
 have g1:(((((st.Aa b1 [.str s]).Aa b3 [.slice 5 [] .full]).Aa b4 [.int .i64 0]).Aa b5 [.int .i64 0]).Aa b6 [.int .i64 0]).box b1=some [.str s]:=by rw [St.Ak n16.symm,St.Ak n15.symm,St.Ak n14.symm,St.Ak n13.symm,St.Ai]
 repeat' ((conv=>whnf);first|exact B1|(refine A1 ?_;intros)|(refine B2 ?_ ?_ ?_;rotate_left)|refine Ah g1 ?_|refine WJ (λ_=>?_)|refine IL (λb7 f7=>?_)|refine Ah (St.Ai ..) ?_|fail)
 obtain ⟨rz,f7a⟩:=A6 f7
 obtain ⟨ry,f7b⟩:=A6 f7a
 obtain ⟨rv,f7c⟩:=A6 f7b
 obtain ⟨n37,f7d⟩:=A6 f7c
 obtain ⟨n17,f7e⟩:=A6 f7d
 have N:PN b1 b3 b4 b5 b6 b7:=⟨n13,n14,n15,n16,n17,n34,n35,n36,n37,n45,n46,rv,sF,ry,rz⟩
 conv=>whnf
 refine ⟨rfl,AL rfl ?_⟩
 generalize hst7:St.Aa _ b7 [V.int .i64 (s.length:Int)]=st7
 have H:PB st st7 b1 b3 b4 b5 b6 b7 s [] .full 0 0 0 s.length:=by
  subst hst7
  refine ⟨?_,?_,?_,?_,?_,St.Ai ..,?_,f3a.1,f4b.1,f5c.1,f6d.1,f7e.1⟩
  .rw [St.Ak n17.symm,St.Ak n17.symm];exact g1
  .rw [St.Ak n37.symm,St.Ak n37.symm,St.Ak n36.symm,St.Ak n35.symm,St.Ak n34.symm,St.Ai]
  .rw [St.Ak rv.symm,St.Ak rv.symm,St.Ak n46.symm,St.Ak n45.symm,St.Ai]
  .rw [St.Ak ry.symm,St.Ak ry.symm,St.Ak sF.symm,St.Ai]
  .rw [St.Ak rz.symm,St.Ak rz.symm,St.Ai]
  .exact St.Aj (St.Aj (St.Aj (St.Aj (St.Aj (St.Aj (St.Aj (St.le_refl _) f1.1 _) f3a.1 _) f4b.1 _) f5c.1 _) f6d.1 _) f7e.1 _) f7e.1 _
 clear hst7 f1 f3 f3a f4 f4a f4b f5 f5a f5b f5c f6 f6a f6b f6c f6d f7 f7a f7b f7c f7d f7e g1 n13 n14 n15 n16 n17 n34 n35 n36 n37 n45 n46 rv sF ry rz
 cases hx:F4 s with
 |inl q=>
  obtain ⟨i,e⟩:=q
  have he:=il hx
  obtain ⟨hi0,hi1⟩:=ny hx
  obtain ⟨m,rfl⟩:∃m:Nat,i=m:=⟨i.toNat,AC⟩
  have hp:Dg s=(Kj,[],(CD s m).1,(CD s m).2,e):=by unfold Dg;rw [hx];rfl
  rw [hp] at h
  refine Af (Ae Ab ?_)
  repeat' ((conv=>whnf);first|exact B1|(refine A1 ?_;intros)|(refine B2 ?_ ?_ ?_;rotate_left)|refine Ah H.k1 ?_|refine tt hx (λst1 hle1=>?_)|refine Ah (H.mono hle1).k3 ?_|refine Ah ((H.mono hle1).s3 N).k6 ?_|fail)
  have H8:=((H.mono hle1).s3 N (es2:=[]) (w2:=.full)).s6 N (x:=e)
  have U:=H8.s7 N (x:=(m:Int))
  refine Af (Af (Ae Ab ?_))
  repeat' ((conv=>whnf);first|exact B1|(refine A1 ?_;intros)|(refine B2 ?_ ?_ ?_;rotate_left)|refine Ah H8.k6 ?_|fail)
  refine S0 true rfl ?_
  rw [if_pos rfl]
  refine Af (Ae Ab ?_)
  repeat' ((conv=>whnf);first|exact B1|(refine A1 ?_;intros)|(refine B2 ?_ ?_ ?_;rotate_left)|refine Ah H8.k7 ?_|fail)
  refine Af (KW Ab (A2 _) (rL 1 og [.agg Cz,.int .i64 e,.BD,.BD,.BD,.BD,.BD] b3 b4 b5 b6 Cz) (λ_=>_) jz GE Yl (St.le_refl _) ?_ ?_)
  .unfold jz
   repeat' (first|refine List.forall_mem_cons.2 ⟨?_,?_⟩|exact λ_ h=>nomatch h)
   repeat' ((conv=>whnf);first|exact B1|(refine A1 ?_;intros)|(refine B2 ?_ ?_ ?_;rotate_left)|refine Ah U.k6 ?_|refine Ah U.k3 ?_|refine Ah U.k4 ?_|refine Ah U.k5 ?_|fail)
   all_goals conv=>whnf
   all_goals (refine ⟨Yl,?_⟩)
   all_goals first|exact St.le_refl _|exact D7 U.k3|exact D7 U.k4|exact D7 U.k5|exact D7 U.k6
  .have H10:=((U.s4 N (x:=(CD s m).1)).s5 N (x:=(CD s m).2)).s3 N (es2:=[]) (w2:=.full)
   refine Ae Ab (QS hl AC U.k6 U.k4 U.k1 U.k7 U.k5 U.k3 N.n45 N.n34.symm N.n35.symm (λh=>h.elim (λh=>absurd h he) (λh=>absurd rfl h)) (λ_ _=>?_))
   repeat' ((conv=>whnf);first|exact B1|(refine A1 ?_;intros)|(refine B2 ?_ ?_ ?_;rotate_left)|refine Ah H10.k3 ?_|refine Ah H10.k4 ?_|refine Ah H10.k5 ?_|refine Ah H10.k6 ?_|fail)
   all_goals exact Bm rfl (h .any _ H10.le)
 |inr x=>
  have hlen:=(im hx).1
  have hmk:=dp x.AV
  obtain ⟨n,t,e,hc⟩:∃n t e,Ce ⟨F7 x.AV,0,[],0⟩ 100 (CT (Ff 100) ⟨F7 x.AV,0,[],0⟩)=(n,t,e):=⟨_,_,_,rfl⟩
  have hp:Dg s=nJ s x.notes (n,t,e):=by unfold Dg;rw [hx];dsimp only;rw [hc]
  obtain ⟨htk,hpos⟩:=nL hc
  have hmu:mu ⟨F7 x.AV,0,[],0⟩<=100000000:=by unfold mu;simp only [List.length_nil];omega
  have hmod:∀{st:St} {R:At->St->Prop},R (.ret (PR n t e)) st->PC 40 [.agg [.slice 4 (A4 (F7 x.AV)) .any,.int .i64 0,.slice 1 [] .full,.int .i64 0],.int .i64 100] st R:=λh=>SD (args':=[Dz ⟨F7 x.AV,0,[],0⟩,.int .i64 100]) rfl (eP hmu (by rw [show Dp 100=100 from rfl,hc];exact h))
  have hok:=ir AC hx
  refine Af (Ae Ab ?_)
  repeat' ((conv=>whnf);first|exact B1|(refine A1 ?_;intros)|(refine B2 ?_ ?_ ?_;rotate_left)|refine Ah H.k1 ?_|refine tu hx (λw1 w2 st1 hle1=>?_)|refine Ah (H.mono hle1).k3 ?_|refine Ah ((H.mono hle1).s3 N).k6 ?_|fail)
  have H8:=((H.mono hle1).s3 N (es2:=GS x.notes) (w2:=w2)).s6 N (x:=0)
  refine Af (Ae Ab ?_)
  repeat' ((conv=>whnf);first|exact B1|(refine A1 ?_;intros)|(refine B2 ?_ ?_ ?_;rotate_left)|refine Ah H8.k6 ?_|fail)
  refine Af (Ae Ab ?_)
  repeat' ((conv=>whnf);first|exact B1|(refine A1 ?_;intros)|(refine B2 ?_ ?_ ?_;rotate_left)|refine nI hok AC ?_|refine hmod ?_|refine Ah H8.k6 ?_|fail)
  have U:=H8.s6 N (x:=e)
  by_cases he:e=0
  .subst he
   have hp2:Dg s=(n,x.notes,0,0,0):=hp.trans nK
   rw [hp2] at h
   refine Af (Af (Ae Ab ?_))
   repeat' ((conv=>whnf);first|exact B1|(refine A1 ?_;intros)|(refine B2 ?_ ?_ ?_;rotate_left)|refine Ah U.k6 ?_|fail)
   refine S0 true rfl ?_
   rw [if_pos rfl]
   refine Af (KW Ab (A2 _) (rL 2 oh [.agg (AB n),.slice 5 (GS x.notes) w2,.int .i64 0,.BD,.BD,.BD,.BD,.BD] b3 b4 b5 b6 (AB n)) (λ_=>_) jA GE Yl (St.le_refl _) ?_ ?_)
   .unfold jA
    repeat' (first|refine List.forall_mem_cons.2 ⟨?_,?_⟩|exact λ_ h=>nomatch h)
    repeat' ((conv=>whnf);first|exact B1|(refine A1 ?_;intros)|(refine B2 ?_ ?_ ?_;rotate_left)|refine Ah U.k6 ?_|refine Ah U.k3 ?_|refine Ah U.k4 ?_|refine Ah U.k5 ?_|fail)
    all_goals conv=>whnf
    all_goals (refine ⟨Yl,?_⟩)
    all_goals first|exact St.le_refl _|exact D7 U.k3|exact D7 U.k4|exact D7 U.k5|exact D7 U.k6
   .refine Ae Ab (QS hl (Nat.le_refl _) U.k6 U.k4 U.k1 U.k7 U.k5 U.k3 N.n45 N.n34.symm N.n35.symm (λ_=>?_) (λh=>absurd rfl h))
    repeat' ((conv=>whnf);first|exact B1|(refine A1 ?_;intros)|(refine B2 ?_ ?_ ?_;rotate_left)|refine Ah U.k3 ?_|refine Ah U.k4 ?_|refine Ah U.k5 ?_|refine Ah U.k6 ?_|fail)
    all_goals exact Bm rfl (h .any _ U.le)
  .refine Af (Ae Ab ?_)
   repeat' ((conv=>whnf);first|exact B1|(refine A1 ?_;intros)|(refine B2 ?_ ?_ ?_;rotate_left)|refine Ah U.k6 ?_|fail)
   refine Pb (α:=Int×Int×St) (λ_=>[]) (λ_=>[]) [2,3,4,5,6] [0] (λp=>p.2.2) (λp=>PB st p.2.2 b1 b3 b4 b5 b6 b7 s (GS x.notes) w2 p.1 p.2.1 e s.length/\Oq t=(p.1,p.2.1)) (Ae Ab ?_) ?_
   .by_cases hlt:t.pos<(t.AV.length:Int)
    .obtain ⟨u,hu⟩:∃u,t.AV[t.pos.toNat]? =some u:=⟨_,List.getElem?_eq_getElem AC⟩
     have hs:Oq t=(u.line,u.Cp):=by unfold Oq;rw [if_pos hlt,hu]
     have H11:=(U.s4 N (x:=u.line)).s5 N (x:=u.Cp)
     repeat' ((conv=>whnf);first|exact B1|(refine A1 ?_;intros)|(refine B2 ?_ ?_ ?_;rotate_left)|refine Wz (λ_=>?_)|refine WB hu AC ?_|refine Ah U.k4 ?_|refine Ah (U.s4 N).k5 ?_|refine Ad 16 [14,15] [] ?_|fail)
     all_goals exact ⟨(u.line,u.Cp,_),⟨H11,hs⟩,Yl,St.le_refl _⟩
    .have hs:Oq t=(0,0):=by unfold Oq;rw [if_neg hlt]
     repeat' ((conv=>whnf);first|exact B1|(refine A1 ?_;intros)|(refine B2 ?_ ?_ ?_;rotate_left)|refine Wz (λ_=>?_)|fail)
     all_goals exact ⟨(0,0,_),⟨U,hs⟩,Yl,St.le_refl _⟩
   .rintro ⟨l,c,m⟩ ⟨Hm,hs⟩
    dsimp only at Hm hs
    have hp2:Dg s=if l=0 then (n,[],(CD s s.length).1,(CD s s.length).2,e) else (n,[],l,c,e):=by
     rw [hp]
     unfold nJ
     rw [if_neg he,hs]
    rw [hp2] at h
    have Hn:=Hm.s3 N (es2:=[]) (w2:=.full)
    refine Af (KW Ab (A2 _) (rL 2 jy [.agg (AB n),.int .i64 l,.int .i64 c,.int .i64 e,.BD,.BD,.BD,.BD,.BD] b3 b4 b5 b6 (AB n)) (rM m b3) bg GE Yl (St.le_refl _) ?_ ?_)
    .unfold bg
     repeat' (first|refine List.forall_mem_cons.2 ⟨?_,?_⟩|exact λ_ h=>nomatch h)
     repeat' ((conv=>whnf);first|exact B1|(refine A1 ?_;intros)|(refine B2 ?_ ?_ ?_;rotate_left)|refine Ah Hm.k6 ?_|refine Ah Hm.k3 ?_|refine Ah Hm.k4 ?_|refine Ah Hm.k5 ?_|refine Ah Hn.k6 ?_|refine Ah Hn.k4 ?_|refine Ah Hn.k5 ?_|fail)
     all_goals conv=>whnf
     all_goals (refine ⟨Yl,?_⟩)
     all_goals first|exact St.le_refl _|exact D7 Hn.k4|exact D7 Hn.k5|exact D7 Hn.k6
    .refine Ae Ab (QS hl (Nat.le_refl _) Hn.k6 Hn.k4 Hn.k1 Hn.k7 Hn.k5 Hn.k3 N.n45 N.n34.symm N.n35.symm (λhz=>?_) (λ_ hz=>?_))
     .rw [if_neg (hz.elim (λh=>absurd h he) id)] at h
      repeat' ((conv=>whnf);first|exact B1|(refine A1 ?_;intros)|(refine B2 ?_ ?_ ?_;rotate_left)|refine Ah Hn.k3 ?_|refine Ah Hn.k4 ?_|refine Ah Hn.k5 ?_|refine Ah Hn.k6 ?_|fail)
      all_goals exact Bm rfl (h .any _ Hn.le)
     .rw [if_pos hz] at h
      have Ho:=((Hn.s4 N (x:=(CD s s.length).1)).s5 N (x:=(CD s s.length).2)).s3 N (es2:=[]) (w2:=.full)
      repeat' ((conv=>whnf);first|exact B1|(refine A1 ?_;intros)|(refine B2 ?_ ?_ ?_;rotate_left)|refine Ah Ho.k3 ?_|refine Ah Ho.k4 ?_|refine Ah Ho.k5 ?_|refine Ah Ho.k6 ?_|fail)
      all_goals exact Bm rfl (h .any _ Ho.le)
end
section
variable {st:St} {R:At->St->Prop}
attribute [local irreducible] Go.Aw.Ag
theorem aV {c:List Nt} {l k:Int} (U:s.length<=16000) (hp:Dg s=(n,c,l,k,e)) (h:∀w st',st.le st'->R (.ret (.Bj [enc n,.slice 5 (GS c) w,.int .i64 l,.int .i64 k,.int .i64 e])) st'):PC 16 [.str s] st R:=nZ U λw st' hle=>by
 rw [hp];exact h w st' hle
end
def ma:List UInt8:=[102,32,61,32,100,111,32,97,10,32,32,32,32,32,32,32,98]
def Vg:List UInt8:=[123,32,102,32,61,32,100,111,32,123,32,97,32,59,32,98,32,125,32,125]
theorem sR:(match Dg ma with|(n,c,l,k,e)=>e==0&&(N5 n==Vg&&(Nat.ble n.size 1000&&Nat.ble (C7 n) 1000)))=true:=EQ
theorem sS:(match Dg Vg with|(n,c,l,k,e)=>e==0&&(Nat.ble n.size 1000&&Nat.ble (C7 n) 1000))=true:=EQ
theorem sT:(match Dg ma,Dg Vg with|(n,_),(m,_)=>Dl n m&& !EV n m)=true:=EQ
theorem tX:∃n c l k m c' l' k',Dg ma=(n,c,l,k,0)/\Dg Vg=(m,c',l',k',0)/\N5 n=Vg/\Dl n m=true/\EV n m=false/\(n.size<=1000/\C7 n<=1000)/\m.size<=1000/\C7 m<=1000:=by
 have h1:=sR
 have h2:=sS
 have U:=sT
 obtain ⟨n,c,l,k,e,hp⟩:∃n c l k e,Dg ma=(n,c,l,k,e):=⟨_,_,_,_,_,rfl⟩
 obtain ⟨m,c',l',k',e',hq⟩:∃n c l k e,Dg Vg=(n,c,l,k,e):=⟨_,_,_,_,_,rfl⟩
 rw [hp] at h1 U
 rw [hq] at h2 U
 simp only [Bool.and_eq_true,beq_iff_eq,Nat.ble_eq,Bool.not_eq_true'] at h1 h2 U
 obtain ⟨rfl,a1,a2⟩:=h1
 obtain ⟨rfl,a3⟩:=h2
 exact ⟨n,c,l,k,m,c',l',k',hp,hq,a1,U.1,U.2,a2,a3⟩
section
variable {st:St} {R:At->St->Prop}
attribute [local irreducible] Go.Aw.Ag
theorem DU (h:∀st',st.le st'->R (.ret (.bool true)) st'):PC 23 [] st R:=by
 refine pB Tryz.func23 ?_
 obtain ⟨n,c,l,k,m,c',l',k',p1,p2,q1,q2,q3,⟨z1,t1⟩,z2,t2⟩:=tX
 have hx:∀{st:St} {R:At->St->Prop},(∀st',st.le st'->R (.ret (.str Vg)) st')->PC 24 [enc n] st R:=λh=>PY AC AC (by rw [q1];exact h)
 have ha:∀{st:St} {R:At->St->Prop},(∀st',st.le st'->R (.ret (.bool true)) st')->PC 29 [enc n,enc m] st R:=λh=>JZ AC AC AC AC (by rw [q2];exact h)
 have hs:∀{st:St} {R:At->St->Prop},R (.ret (.bool false)) st->PC 17 [enc n,enc m] st R:=λh=>Uw _ (Nat.le_refl _) (by rw [q3];exact h)
 repeat' ((conv=>whnf);first|refine Wt (show Vg=[123,32,102,32,61,32,100,111,32,123,32,97,32,59,32,98,32,125,32,125] from rfl) ?_|(refine A1 ?_;intros)|refine aV Do p1 (λw1 st1 U=>?_)|refine aV Do p2 (λw2 st2 hle2=>?_)|refine hx (λst3 hle3=>?_)|refine ha (λst4 hle4=>?_)|refine hs ?_)
 all_goals exact fin (h _ (St.le_trans U (St.le_trans hle2 (St.le_trans hle3 hle4)))) rfl
end
end Go.Proofs.Z
namespace Go.Aw
open Go
inductive Pl:List UInt8->List UInt8->Prop
 |nil:Pl [] []
 |byte {a:UInt8} {r o:List UInt8}:a.toNat≠92->Pl r o->Pl (a::r) (a::o)
 |D6 {l o:List UInt8}:0<Ch l->Pl (l.drop (Ch l)) o->Pl l ([92,32,92]++o)
 |s9 {l o:List UInt8} {p:Int×Nat}:AE l=92->Ch l=0->Dq true l=some p->Pl (l.drop p.2) o->Pl l (l.take p.2++o)
theorem Pl.bytes:∀(u:List UInt8) {r o:List UInt8},(∀b ∈ u,b.toNat≠92)->Pl r o->Pl (u++r) (u++o)
 |[],r,o,_,h=>h
 |a::u,r,o,U,h=>.byte (U a List.mem_cons_self) (Pl.bytes u (λb hb=>U b (List.mem_cons_of_mem _ hb)) h)
theorem Z4 (h:AE l≠92):∀b ∈ l.take (AR l).2,b.toNat≠92:=by
 intro b hb
 obtain ⟨j,U⟩:=List.getElem?_of_mem hb
 rw [List.getElem?_take] at U
 split at U
 .rename_i hlt
  have hne:l≠[]:=λe=>by rw [e] at U;simp at U
  by_cases h0:j=0
  .subst h0
   intro e
   rw [<-List.head?_eq_getElem?] at U
   cases l with
   |nil=>cases U
   |cons a r=>injection U with U;subst U;exact h (by show ((a.toNat:Nat):Int)=92;omega)
  .have hg:DV (AR l)=true:=by
    have:(AR l).2≠1:=AC
    simp [DV,this]
   obtain ⟨b',h1,h2⟩:=Si hne hg j AC hlt
   rw [U] at h1
   injection h1 with h1
   subst h1;omega
 .cases U
theorem fz:∀c:Nat,c<128->Ax ((c:Nat):Int)=1->EL (c:Nat)=none/\(c≠38/\c≠94/\c≠111/\c≠120)/\(c<48\/57<c)/\(c<65\/90<c):=by
 have h:(List.range 128).all (λc=> !(Ax ((c:Nat):Int)==1)||((EL (c:Nat)).isNone&&(c !=38&&(c !=94&&(c !=111&&c !=120)))&&((decide (c<48)||decide (57<c))&&(decide (c<65)||decide (90<c)))))=true:=GE
 intro c hc U
 have:=List.all_eq_true.1 h c (List.mem_range.2 hc)
 simp [U] at this
 refine ⟨this.1.1,?_⟩
 omega
theorem fV (h:AE l<128) (U:0<=AE l):(((AR l).1:Nat):Int)=AE l:=by
 cases l with
 |nil=>exact absurd U Do
 |cons a r=>
  have h:a.toNat<128:=by have:((a.toNat:Nat):Int)<128:=h;omega
  unfold AR
  dsimp only
  rw [if_pos h];rfl
theorem mN (h:0<Ch l):Dq false l=none:=by
 have hs:BQ (λc=>Ax c==1) (l.drop 1)≠0:=by
  unfold Ch at h
  split at h
  .rename_i hc;exact hc.2.1
  .omega
 have hp:Ax ((AR (l.drop 1)).1:Nat)=1:=by
  by_cases hp:Ax ((AR (l.drop 1)).1:Nat)=1
  .exact hp
  .exact absurd (Xy (by simpa using hp)) hs
 have h255:=Ns (l.drop 1)
 have hne:0<=AE (l.drop 1):=by
  cases hd:l.drop 1 with
  |nil=>rw [hd,SN] at hs;exact absurd rfl hs
  |cons a r=>exact Int.natCast_nonneg _
 have facts:EL (AE (l.drop 1))=none/\(AE (l.drop 1)≠38/\AE (l.drop 1)≠94/\AE (l.drop 1)≠111/\AE (l.drop 1)≠120)/\¬(48<=AE (l.drop 1)/\AE (l.drop 1)<=57)/\¬(65<=AE (l.drop 1)/\AE (l.drop 1)<=90):=by
  by_cases U:AE (l.drop 1)<128
  .rw [fV U hne] at hp
   obtain ⟨c,hc⟩:=Int.eq_ofNat_of_zero_le hne
   rw [hc] at hp U |-
   obtain ⟨q1,q2,q3,q4⟩:=fz c AC hp
   exact ⟨q1,AC,AC,AC⟩
  .refine ⟨?_,AC,AC,AC⟩
   unfold EL
   repeat' split
   all_goals first|rfl|omega
 obtain ⟨q1,q2,q3,q4⟩:=facts
 rw [Jz q1 (λe=>absurd e.1 q2.1) (λe=>q2.2.1 e.1) q2.2.2.1 q2.2.2.2 q3,QG q4]
 rfl
theorem qK (h:Dq false l=some p):Dq true l=some p:=by
 by_cases U:AE (l.drop 1)=38
 .exfalso
  have hs:EL (AE (l.drop 1))=none:=by rw [U];rfl
  rw [Jz hs (λe=>by cases e.2) (λe=>by omega) AC AC AC,QG AC] at h
  cases h
 .rw [<-h]
  unfold Dq
  simp only [U,false_and,if_false]
theorem QU {N pos n:Nat} {r:List (Nat×Nat)} (h:RY N (pos+n) r):HP s pos r=(s.drop pos).take n++HP s (pos+n) r:=by
 cases r with
 |nil=>
  rw [HP,HP,<-List.drop_drop,List.take_append_drop]
 |cons p r=>
  have U:=h.1
  rw [HP,HP,<-List.append_assoc,<-List.append_assoc]
  congr 2
  rw [List.drop_take,List.drop_take,show p.1 - pos=n+(p.1 - (pos+n)) by omega,List.take_add,List.drop_drop]
theorem od:∀(m pos:Nat),(s.drop pos).length<=m->C6 (s.drop pos)=.inr (s.drop pos).length->Pl (s.drop pos) (HP s pos (Ga pos (s.drop pos))):=by
 intro m
 induction m with
 |zero=>
  intro pos hm h
  have:s.drop pos=[]:=List.eq_nil_of_length_eq_zero AC
  rw [this] at h
  exact absurd h GE
 |succ m ih=>
  intro pos hm h
  have hpos:pos<=s.length:=by
   rcases Nat.le_total pos s.length with U|U
   .exact U
   .rw [List.drop_of_length_le U] at h;exact absurd h GE
  rw [C6] at h
  by_cases h34:AE (s.drop pos)=34
  .rw [if_pos h34] at h
   rw [Ga,if_pos h34]
   injection h with h
   rw [HP]
   match hl:s.drop pos,h,h34 with
   |[a],_,h34=>exact .byte (λe=>by have:((a.toNat:Nat):Int)=34:=h34;omega) .nil
  .rw [if_neg h34] at h
   split at h
   .cases h
   .rename_i p hp
    rw [XD h34 hp]
    have hle:=ED hp
    have hlen:(s.drop (pos+p.2)).length+p.2=(s.drop pos).length:=by simp only [List.length_drop] at hle |-;omega
    rw [List.drop_drop] at h
    split at h
    .cases h
    .rename_i n hn
     injection h with h
     have hI:=ih (pos+p.2) AC (by rw [hn];congr 1;omega)
     have hg:=Qj (N:=s.length) (pos+p.2) (s.drop (pos+p.2)) (by simp only [List.length_drop] at hle |-;omega)
     rw [List.drop_drop]
     split
     .rename_i hgap
      have U:=QP hgap
      rw [hp] at U
      injection U with U
      rw [HP]
      have e0:(s.take pos).drop pos=[]:=List.drop_of_length_le Nm
      dsimp only
      rw [e0,List.nil_append]
      have e2:p.2=Ch (s.drop pos):=by rw [U]
      rw [e2] at hI |-
      exact .D6 hgap (by rw [List.drop_drop];exact hI)
     .rename_i hgap
      rw [QU hg]
      by_cases h92:AE (s.drop pos)=92
      .have U:=Ih (tx:=true) h92 (.inr AC)
       rw [hp] at U
       split at U
       .cases U
       .rename_i q hq
        injection U with U
        subst U
        exact .s9 h92 AC hq (by rw [List.drop_drop];exact hI)
      .have hne:s.drop pos≠[]:=λe=>by rw [e] at hle;simp at hle;omega
       have U:=Kk (tx:=true) hne h92
       rw [hp] at U
       split at U
       .cases U
       .injection U with U
        have e2:p.2=(AR (s.drop pos)).2:=by rw [U]
        have hb:=Z4 h92
        rw [<-e2] at hb
        have:=Pl.bytes _ hb (show Pl ((s.drop pos).drop p.2) _ by rw [List.drop_drop];exact hI)
        rwa [List.take_append_drop] at this
theorem n9 {n:Nat} (h:Ep l=.inr n) (hn:n=l.length):Pl l l:=by
 unfold Ep at h
 split at h
 .cases h
 .split at h
  .cases h
  .rename_i p hp
   have hle:=ED hp
   split at h
   .rename_i h39
    injection h with h
    have hl:(l.drop p.2).length=1:=IR
    have hend:Pl (l.drop p.2) (l.drop p.2):=by
     match hd:l.drop p.2,hl,h39 with
     |[a],_,h39=>exact .byte (λe=>by have:((a.toNat:Nat):Int)=39:=h39;omega) .nil
    have e:l=l.take p.2++l.drop p.2:=(List.take_append_drop _ _).symm
    by_cases h92:AE l=92
    .have U:=Ih (tx:=false) h92 (.inl rfl)
     rw [hp] at U
     split at U
     .cases U
     .rename_i q hq
      injection U with U
      subst U
      have hg:Ch l=0:=Nat.eq_zero_of_not_pos λhg=>by rw [mN hg] at hq;cases hq
      have:=Pl.s9 h92 hg (qK hq) hend
      rwa [List.take_append_drop] at this
    .have hne:l≠[]:=λe=>by rw [e] at hle;simp at hle;omega
     have U:=Kk (tx:=false) hne h92
     rw [hp] at U
     split at U
     .cases U
     .injection U with U
      have e2:p.2=(AR l).2:=by rw [U]
      have hb:=Z4 h92
      rw [<-e2] at hb
      have:=Pl.bytes _ hb hend
      rwa [List.take_append_drop] at this
   .cases h
theorem rJ (h:Eg s=0):Pl s (HP s 0 (Lg s 0)):=by
 have h2:(Bs s 0).2.2=0/\(Bs s 0).1≠0/\(Bs s 0).2.1=s.length:=by
  unfold Eg at h
  (repeat' split at h)<;>omega
 obtain ⟨h2,h3,U⟩:=h2
 unfold Bs at h2 h3 U
 unfold Lg
 rw [List.drop_zero] at *
 by_cases h34:AE s=34
 .rw [if_pos h34] at h2 h3 U |-
  cases s with
  |nil=>exact absurd h34 Do
  |cons a r=>
   split at U
   .rename_i q hq;rw [hq] at h3;exact absurd rfl h3
   .rename_i n hn
    have hln:n=r.length:=by
     have U:((0+1+n:Nat):Int)=((a::r).length:Nat):=U
     rw [List.length_cons] at U;omega
    have hg:=Qj (N:=(a::r).length) (0+1) ((a::r).drop (0+1)) (by rw [List.length_drop,List.length_cons];omega)
    have ht:=od (s:=a::r) _ (0+1) (Nat.le_refl _) (by rw [hn,hln];rfl)
    rw [QU (n:=0+1) (by rw [Nat.zero_add (0+1)];exact hg),Nat.zero_add (0+1)]
    exact .byte (λe=>by have:((a.toNat:Nat):Int)=34:=h34;omega) ht
 .rw [if_neg h34] at h2 h3 U |-
  rw [HP,List.drop_zero]
  by_cases h39:AE s=39
  .rw [if_pos h39] at h2 h3 U
   cases s with
   |nil=>exact absurd h39 Do
   |cons a r=>
    split at U
    .rename_i q hq;rw [hq] at h3;exact absurd rfl h3
    .rename_i n hn
     have hln:n=r.length:=by
      have U:((0+1+n:Nat):Int)=((a::r).length:Nat):=U
      rw [List.length_cons] at U;omega
     exact .byte (λe=>by have:((a.toNat:Nat):Int)=39:=h39;omega) (n9 hn hln)
  .rw [if_neg h39] at h3
   exact absurd rfl h3
theorem qP (h:0<Ch l):AE l=92:=by
 unfold Ch at h
 split at h
 .rename_i U;exact U.1
 .omega
theorem Pl.gY {a:UInt8} {r o:List UInt8} (h:Pl (a::r) o) (ha:¬((a.toNat:Nat):Int)=92):∃o',o=a::o'/\Pl r o':=by
 generalize hl:a::r=l at h
 cases h with
 |nil=>cases hl
 |byte U h2=>cases hl;exact ⟨_,rfl,h2⟩
 |D6 U h2=>subst hl;exact absurd (qP U) ha
 |s9 U h2 h3 h4=>subst hl;exact absurd U ha
theorem Pl.qV {o:List UInt8} (h:Pl l o) (U:AE l=92):(0<Ch l/\∃o',o=[92,32,92]++o'/\Pl (l.drop (Ch l)) o')\/(Ch l=0/\∃p o',Dq true l=some p/\o=l.take p.2++o'/\Pl (l.drop p.2) o'):=by
 cases h with
 |nil=>exact absurd U Do
 |byte h1 h2=>exact absurd U λ(e:((_:Nat):Int)=92)=>h1 AC
 |D6 h1 h2=>exact .inl ⟨h1,_,rfl,h2⟩
 |s9 h1 h2 h3 h4=>exact .inr ⟨h2,_,_,h3,rfl,h4⟩
def Jt (s:List UInt8):List (List V):=s.map λb=>[V.int .u8 b.toNat]
section
variable {D:List Deferred} {P:Program} {T:List (Nat×Ty)} {I0 I:Mem} {st0 st:St} {w0 w:World} {β:Nat->Option Nat} {env:Env} {a:Act} {Q:AD->Env->St->Prop}
def XL (P:Program) (all ops:List Oper) (Q:AD->Env->St->Prop) (env:Env) (st:St):Prop:=
 ∀D I0 st0 w0 I β a w,Rel D I0 st0 w0 I β env st a w->wpListIn (fw none) 1 P all.toArray (Ci D I0 st0 w0 Q) ops a w
theorem MY {id:Nat} (h:XL P all all Q env st):AW P (.region id all.toArray false) Q env st:=λD I0 st0 w0 I β a w U=>by
 rw [<-wpIn_wide (n:=1)]
 exact wpIn_region_list (F:=fw none) (n:=1) (h D I0 st0 w0 I β a w U)
theorem S3 (hP:MZ P T) {ops:List Oper} (k:Nat) (hnd:Hw (ops.take k)=true)
 (h:Fu T (A0 P) all (BF (λenv st=>XL P all (ops.drop k) Q env st) Q) (ops.take k) env st):XL P all ops Q env st:=λD I0 st0 w0 I β a w hr=>by
 have:=Hu (ro:=none) (n:=1) (l2:=ops.drop k) (Q:=Ci D I0 st0 w0 Q) (Q0:=Ci D I0 st0 w0 (BF (λenv st=>XL P all (ops.drop k) Q env st) Q)) F6 ?_ ?_ (ops.take k) a w (DX hnd) (CG hP.t (A2 P) hr h)
 .rwa [List.take_append_drop] at this
 .rintro e a w hne ⟨I,β,env,st,ae,h1,U,h3⟩
  cases ae with
  |normal=>cases e<;>first|exact absurd rfl hne|exact U.elim
  |exit i=>exact ⟨I,β,env,st,.exit i,h1,U,h3⟩
  |goto i=>exact ⟨I,β,env,st,.goto i,h1,U,h3⟩
  |ret=>exact ⟨I,β,env,st,.ret,h1,U,h3⟩
  |BK v=>exact ⟨I,β,env,st,.BK v,h1,U,h3⟩
 .rintro a1 w1 ⟨I1,β1,env1,st1,ae,h1,U,h3⟩
  cases ae with
  |exit _|goto _|ret|BK _=>exact U.elim
  |normal=>exact h3 D I0 st0 w0 I1 β1 a1 w1 h1
theorem S2 (hP:MZ P T) {ops:List Oper} (U:Hw ops=true) (h:Fu T (A0 P) all Q ops env st):XL P all ops Q env st:=λD I0 st0 w0 I β a w hr=>by
 have:=Hu (ro:=none) (n:=1) (l2:=[]) F6 (λ_ _ _ _ h=>h) (λa w h=>h) ops a w (DX U) (CG hP.t (A2 P) hr h)
 simp_all
theorem pn {U:Oper} (hg:U.guard=none) (nd:∀c,U.op≠.defer c) (h:∀D I0 st0 w0 I β a w,Rel D I0 st0 w0 I β env st a w->∃c w' v I' st',(execOp a.eval U).run P w=.ok (.value c) w'/\Rel D I0 st0 w0 I' β env st' a w'/\AH I' v c/\env.go U.dst v λenv=>XL P all post Q env st'):
 XL P all (U::post) Q env st:=λD I0 st0 w0 I β a w hr=>by
 obtain ⟨c,w',v,I',st',h1,h2,h3,h4⟩:=h D I0 st0 w0 I β a w hr
 obtain ⟨env3,r3,k3⟩:=BL h2 (c:=c) (AQ.of h3) h4
 unfold wpListIn
 rw [if_pos (by simp [Region.wanted,hg])]
 refine ⟨λ_ _=>trivial,?_⟩
 rw [Oper.semAt_eq _ _ _ nd,h1]
 exact k3 D I0 st0 w0 I' β _ w' r3
theorem Q1:∀s:List UInt8,BN I 1 (Jt s) (Lib.strCells ⟨s.toArray⟩)
 |[]=>rfl
 |b::r=>by
  have:=Q1 r
  simp only [Jt,Lib.strCells,List.map_cons,BN] at this |-
  exact ⟨[.int .u8 b.toNat],_,rfl,rfl,by simp only [Ao,AH];exact ⟨_,_,rfl,rfl,rfl⟩,this⟩
theorem Uv {ty e:TypeId} {i:TypeInfo} (ht:P.underlying t=some (.slice e)) (hu:P.underlying u=some .string) (hi:P.info? e=some i) (hs1:i.size=1)
 {g U sCap:Nat} {cur:Array Value} {ety:TypeId} (hg:w.heap[g]? =some (.cells cur ety (0,0))) (s:ByteArray) (hroom:U+s.size<=sCap) (hfit:U+s.size<=cur.size):
 (Builtin.append_ #[t,u] ty #[.slice (some ⟨g,0,none⟩) U sCap,.string s]).run P w=
   .ok (.slice (some ⟨g,0,none⟩) (U+s.size) sCap) (w.setRow g (cur.toList.take U++Lib.strCells s++cur.toList.drop (U+s.size)).toArray):=by
 have hf:=Lib.run_firstCells_string (P:=P) w 1 s
 have hst:=run_storeCells_at P g U ety (Lib.strCells s) 0 cur w hg (by simpa [Lib.strCells_length] using hfit) (Lib.strCells_oneCell s)
 simp only [Nat.add_zero,Lib.strCells_length] at hst
 simp [Builtin.append_,run_underlying ht,run_underlying hu,sizeOf,typeInfo,hi,hs1,Builtin.lenOf,hroom,hf,B9,hst]
theorem bW (hT:Gc P T) {ty:TypeId} (ht:assoc T t=some (.slice el 1 1)) (hu:P.underlying u=some .string) {l:List (List V)} {own:AA} {st:St} (hown:own.Bw st)
 (h:Rel D I0 st0 w0 I β env (own.st st l.length) a w) {cx:Value} (hx:AH I (.slice 1 l own) cx) (hs:s≠[]) (hlim:l.length+s.length<=1000000000):
 ∃c w' I' own',(Builtin.append_ #[t,u] ty #[cx,.string ⟨s.toArray⟩]).run P w=.ok c w'/\own'.Bw st/\Rel D I0 st0 w0 I' β env (own'.st st (l.length+s.length)) a w'/\AH I' (.slice 1 (l++Jt s) own') c:=by
 obtain ⟨i0,j,c,g1,g2,g3,g4,g5,g6,g7,g8,g9,g10⟩:=hT t _ ht
 obtain ⟨ax,cap,rfl,x2,x3,x4,x5,x6⟩:=DI (β:=λ_=>none) (show AQ I _ (.slice 1 l own) cx from hx)
 have hz1:(⟨s.toArray⟩:ByteArray).size=s.length:=by simp [ByteArray.size]
 have hpos:0<s.length:=List.length_pos_iff.2 hs
 have n1:=Q1 (I:=I) s
 have nl:(Lib.strCells ⟨s.toArray⟩).length=s.length:=by rw [Lib.strCells_length,hz1]
 have bl:(Jt s).length=s.length:=List.length_map _
 have hfr:st.fresh w.heap.size/\∀b,own=.tok b->w.heap.size≠b:=by
  have:=CU h.s
  cases own with
  |any=>exact hown.elim
  |full=>exact ⟨this,λb e=>by cases e⟩
  |tok b=>
   have h2:=this.2
   simp only [AA.st,St.BB] at h2
   by_cases e:w.heap.size=b
   .rw [if_pos e] at h2;cases h2
   .rw [if_neg e] at h2;exact ⟨⟨this.1,h2⟩,λb' e'=>by cases e';exact e⟩
 have hle:∀n:Nat,(st.BB w.heap.size n).le ((own.st st l.length).BB w.heap.size n):=λn=>by
  cases own with
  |any=>exact hown.elim
  |full=>exact St.le_refl _
  |tok b=>
   have hb:st.fresh b:=hown
   refine ⟨λ_ _ e=>e,λz m e=>?_⟩
   simp only [AA.st,St.BB] at e |-
   have:=hb.2
   grind
 have grow:∀(U:List Value),BN I 1 l U->cap<l.length+s.length->
  (Builtin.append_ #[t,u] ty #[.slice ax l.length cap,.string ⟨s.toArray⟩]).run P w=.ok (.slice (some ⟨w.heap.size,0,none⟩) (l.length+s.length) (grownCap w (l.length+s.length) cap el))
    (w.drew.alloc (.cells (U.toArray++(Lib.strCells ⟨s.toArray⟩).toArray++Builtin.zeroCells c.cells (grownCap w (l.length+s.length) cap el - (l.length+s.length))) el))->
  ∃c w' I' own',(Builtin.append_ #[t,u] ty #[.slice ax l.length cap,.string ⟨s.toArray⟩]).run P w=.ok c w'/\own'.Bw st/\Rel D I0 st0 w0 I' β env (own'.st st (l.length+s.length)) a w'/\AH I' (.slice 1 (l++Jt s) own') c:=by
  intro U ho hlt hrun
  have hge:=grownCap_ge w (l.length+s.length) cap el
  have hall:BN I 1 (l++Jt s) (U++Lib.strCells ⟨s.toArray⟩):=ho.append n1
  have hlen:(l++Jt s).length=l.length+s.length:=by rw [List.length_append,bl]
  have hlo:=BN.length ho
  have hz:∀q:Nat,(Builtin.zeroCells c.cells q).toList.length=q:=λq=>by rw [Array.length_toList,size_zeroCells,g10,Nat.mul_one]
  obtain ⟨r1,r2⟩:=(h.IG (HB.drew w)).Mo (rest:=(Builtin.zeroCells c.cells (grownCap w (l.length+s.length) cap el - (l.length+s.length))).toList) (ty:=el)
   (cap:=grownCap w (l.length+s.length) cap el) hall AC (by rw [hlen];simp only [C9];omega)
   (by rw [List.length_append,hlo,nl,hz];omega) AC
  rw [hlen,Nat.mul_one] at r1
  have harr:(U++Lib.strCells ⟨s.toArray⟩++(Builtin.zeroCells c.cells (grownCap w (l.length+s.length) cap el - (l.length+s.length))).toList).toArray=
   U.toArray++(Lib.strCells ⟨s.toArray⟩).toArray++Builtin.zeroCells c.cells (grownCap w (l.length+s.length) cap el - (l.length+s.length)):=by
   apply Array.ext';simp
  rw [harr] at r1
  rw [hlen] at r2
  exact ⟨_,_,_,.tok w.heap.size,hrun,hfr.1,r1.Gw (hle _),r2⟩
 have KB:∃U,BN I 1 l U/\(cap<l.length+s.length->(Builtin.append_ #[t,u] ty #[.slice ax l.length cap,.string ⟨s.toArray⟩]).run P w=.ok (.slice (some ⟨w.heap.size,0,none⟩) (l.length+s.length) (grownCap w (l.length+s.length) cap el))
  (w.drew.alloc (.cells (U.toArray++(Lib.strCells ⟨s.toArray⟩).toArray++Builtin.zeroCells c.cells (grownCap w (l.length+s.length) cap el - (l.length+s.length))) el))):=by
  cases ax with
  |none=>
   simp only at x6
   subst x6
   have:l=[]:=List.eq_nil_of_length_eq_zero AC
   subst this
   refine ⟨[],H1,λhlt=>?_⟩
   have:=run_append_nil_string (P:=P) w t u ty el j c g2 hu g5 g9 ⟨s.toArray⟩ AC AC (by rw [hz1,g7];omega)
   rw [hz1] at this
   have e1:Array.map (λb:UInt8=>Value.int .u8 b.toNat) s.toArray=(Lib.strCells ⟨s.toArray⟩).toArray:=by
    apply Array.ext';simp [Lib.strCells]
   simp_all
  |some ax=>
   obtain ⟨bx,ox,spx⟩:=ax
   simp only at x6
   obtain ⟨x0,x6⟩:=x6
   obtain ⟨U,o1,o2⟩:=FG h.s x6
   refine ⟨U,o1,λhlt=>?_⟩
   have:=Lib.run_append_grow_string (P:=P) w t u ty el j c g2 hu g5 g9 ⟨bx,ox,spx⟩ l.length cap U (by rw [g6];exact BN.length o1) (λjj v e=>by
    rcases x0 with x0|x0
    .have h0:l.length=0:=AC
     have:=BN.length o1
     simp_all
    .have x0:spx=none:=x0
     subst x0
     rw [B9];simp_all) ⟨s.toArray⟩ AC AC (by rw [g7];exact growslice_fits AC AC)
   rwa [hz1] at this
 obtain ⟨U,o1,o2⟩:=KB
 cases own with
 |any=>exact hown.elim
 |full=>
  have hc:cap=l.length:=x5
  exact grow U o1 AC (o2 AC)
 |tok b=>
  obtain ⟨t1,t2⟩:=x5
  subst t1
  rcases Nat.lt_or_ge cap (l.length+s.length) with hlt|hroom
  .exact grow U o1 hlt (o2 hlt)
  .obtain ⟨cur,ety,c1,c2⟩:=h.s.shape b _ t2
   rw [Nat.mul_one] at c2 t2
   have hrun:=Uv (P:=P) (ty:=ty) g2 hu g5 g6 c1 ⟨s.toArray⟩ (by rw [hz1];exact hroom) AC
   rw [hz1] at hrun
   have hcur:cur=cur.toList.toArray:=GT
   have hcl:cur.toList.length=cap:=by rw [Array.length_toList];exact c2
   have hh:(AA.st st l.length (.tok b)).hw b=some l.length:=by simp [AA.st,St.BB]
   have r1:=h.U3 (b:=b) (n:=l.length) (m:=cap) (cur:=cur.toList) (ty:=ety) hh (by rw [<-hcur];exact c1) t2 (Lib.strCells ⟨s.toArray⟩) (by rw [nl];exact hcl.symm ▸ hroom)
   rw [nl] at r1
   have hf:=(h.s.hw b _ hh).2
   have hl:I.le (I.add b l.length (Lib.strCells ⟨s.toArray⟩) cap):=Mem.Nw hf (.inr t2)
   have hb:st.fresh b:=hown
   have e:(St.Dd (st.BB b l.length) b)=st:=by
    cases st
    simp only [St.BB,St.Dd,St.mk.injEq,true_and]
    funext x
    split
    .rename_i e;subst e;exact hb.2.symm
    .rfl
   refine ⟨_,_,I.add b l.length (Lib.strCells ⟨s.toArray⟩) cap,.tok b,hrun,hown,?_,?_⟩
   .have r2:=r1
    rw [show St.Dd (AA.st st l.length (.tok b)) b=st from e] at r2
    exact r2
   .simp only at x6
    simp only [AH]
    have hab:(l++Jt s).length=l.length+s.length:=by rw [List.length_append,bl]
    refine ⟨some ⟨b,0,none⟩,cap,by rw [hab],by rw [hab];exact hroom,by rw [hab];simp only [C9];omega,AC,⟨rfl,by rw [Nat.mul_one];exact hl.2 _ _ t2⟩,.inr rfl,?_⟩
    refine B8.append (B8.mono hl _ _ _ _ x6.2) ?_
    refine B8.add _ (Lib.strCells ⟨s.toArray⟩) _ n1 hl λjj v e=>?_
    rw [Nat.zero_add,Nat.mul_one]
    exact Mem.M1 e
theorem bP (hT:Gc P T) {x y:Operand} (hg:oc.guard=none) (hc:oc.op=.call {callee:=.builtin .append,args:=#[x,y],argTypes:=#[t,u]}) (ht:assoc T t=some (.slice el 1 1)) (hu:assoc T u=some (.sc (.str [])))
 {l:List (List V)} {own:AA} {st:St} (hx:env.eval x=.slice 1 l own) (hy:env.eval y=.str s) (hown:own.Bw st) (hs:s≠[]) (hlim:l.length+s.length<=1000000000)
 (k:∀U:AA,U.Bw st->env.go oc.dst (.slice 1 (l++Jt s) U) λenv=>XL P all post Q env (U.st st (l.length+s.length))):XL P all (oc::post) Q env (own.st st l.length):=
 pn hg (by simp [hc]) λD I0 st0 w0 I β a w hr=>by
  have h1:=hr.f.eval x
  have h2:=hr.f.eval y
  rw [hx] at h1
  rw [hy] at h2
  have h1:AH I (.slice 1 l own) (a.eval x):=h1
  have h2:AH I (.str s) (a.eval y):=h2
  simp only [AH] at h2
  obtain ⟨_,d,_,_,hd,_,_,_,_,_,_,_,hm⟩:=hT u _ hu
  subst hm
  obtain ⟨c,w',I',U,q1,q2,q3,q4⟩:=bW (ty:=oc.type) hT ht hd hown hr h1 hs hlim
  refine ⟨c,w',_,I',_,?_,q3,q4,k U q2⟩
  simp only [execOp,hc,resolve,invoke,builtin,Sem.run_bind,Sem.run_pure,Result.andThen_ok,List.map_toArray,List.map_cons,List.map_nil,h2.1,q1]
theorem ZW (l s:List UInt8):Jt l++Jt s=Jt (l++s):=(List.map_append ..).symm
theorem FQ (l:List UInt8):(Jt l).length=l.length:=List.length_map _
theorem Pg (hT:Gc P T) {x y:Operand} (hg:oc.guard=none) (hc:oc.op=.call {callee:=.builtin .append,args:=#[x,y],argTypes:=#[t,u]}) (ht:assoc T t=some (.slice el 1 1)) (hu:assoc T u=some (.sc (.str [])))
 {own:AA} {st:St} (hx:env.eval x=.slice 1 (Jt l) own) (hy:env.eval y=.str s) (hown:own.Bw st) (hs:s≠[]) (hlim:l.length+s.length<=1000000000)
 (k:∀U:AA,U.Bw st->env.go oc.dst (.slice 1 (Jt (l++s)) U) λenv=>XL P all post Q env (U.st st (l++s).length)):XL P all (oc::post) Q env (own.st st l.length):=by
 have:=bP (Q:=Q) (post:=post) (all:=all) hT hg hc ht hu hx hy hown hs (by rw [FQ];exact hlim) (λU ho=>by
  have:=k U ho
  rw [ZW,FQ,<-List.length_append]
  exact this)
 rwa [FQ] at this
theorem qq {new:List UInt8} {own:AA} {st:St} (h:own.Bw st) (hb:l.length+new.length<=1000000000)
 (k:∀U:AA,U.Bw st->K (.slice 1 (Jt (l++new)) U) (U.st st (l++new).length)):Ag 1 1 (Jt l) own (Jt new) (own.st st l.length) K:=by
 have h1:∀l,(Jt l).map (·.map V.Jl)=Jt l:=λl=>by simp only [Jt,List.map_map];rfl
 have:=E2 (sz:=1) (bytes:=1) (es:=Jt l) (new:=Jt new) (K:=K) h (by rw [FQ,FQ];omega) (by rw [FQ,FQ];simp only [C9];omega)
  (by simp [Jt,V.sc]) (λU ho=>by
    have:=k U ho
    rw [h1,ZW,FQ,FQ,Nat.mul_one,<-List.length_append]
    exact this)
 rwa [FQ,Nat.mul_one] at this
theorem Sg {I:Mem}:∀{s:List UInt8} {vs:List Value},BN I 1 (Jt s) vs->vs=(s.map λb=>(b.toNat:Int)).map (Value.int .u8)
 |[],vs,h=>by simpa [Jt,BN] using h
 |b::r,vs,h=>by
  simp only [Jt,List.map_cons,BN] at h
  obtain ⟨us,q,rfl,_,U,h2⟩:=h
  simp only [Ao,AH] at U
  obtain ⟨c,q2,rfl,rfl,rfl⟩:=U
  rw [Sg (s:=r) (vs:=q) h2];rfl
theorem QW:∀(s:List UInt8) (l:List UInt8),(s.map λb=>(b.toNat:Int)).foldl (λ(r:ByteArray) n=>r.push (UInt8.ofNat n.toNat)) ⟨l.toArray⟩=⟨(l++s).toArray⟩
 |[],l=>by simp
 |b::r,l=>by
  rw [List.map_cons,List.foldl_cons]
  have:(⟨l.toArray⟩:ByteArray).push (UInt8.ofNat ((b.toNat:Int)).toNat)=⟨(l++[b]).toArray⟩:=by
   simp [ByteArray.push]
  rw [this,QW r (l++[b]),List.append_assoc];rfl
theorem lL (hT:Gc P T) {x:Operand} (hg:oc.guard=none) (hc:oc.op=.convert t u x) (ht:assoc T t=some (.slice el 1 1)) (hu:assoc T u=some (.sc (.str []))) (he:assoc T el=some (.sc (.int .u8 0)))
 {own:AA} (hx:env.eval x=.slice 1 (Jt s) own) (k:env.go oc.dst (.str s) λenv=>XL P all post Q env st):XL P all (oc::post) Q env st:=
 pn hg (by simp [hc]) λD I0 st0 w0 I β a w hr=>by
  have h1:=hr.f.eval x
  rw [hx] at h1
  obtain ⟨ax,cap,e1,x2,x3,x4,x5,x6⟩:=DI h1
  obtain ⟨_,d,_,_,hd,_,_,_,_,_,_,_,hm⟩:=hT u _ hu
  subst hm
  obtain ⟨_,d,_,_,hd2,_,_,_,_,_,_,_,hm⟩:=hT el _ he
  subst hm
  obtain ⟨i0,j,c,g1,g2,g3,g4,g5,g6,g7,g8,g9,g10⟩:=hT t _ ht
  have bl:(Jt s).length=s.length:=List.length_map _
  have key:(Conv.bytesToString (a.eval x)).run P w=.ok (.string ⟨s.toArray⟩) w:=by
   rw [e1]
   cases ax with
   |none=>
    simp only at x6
    have:s=[]:=List.eq_nil_of_length_eq_zero AC
    subst this
    rfl
   |some ax=>
    obtain ⟨bx,ox,U⟩:=ax
    simp only at x6
    obtain ⟨x0,x6⟩:=x6
    obtain ⟨olds,o1,o2⟩:=FG hr.s x6
    have hol:=Sg o1
    have hlo:=BN.length o1
    have hf:=run_firstCells_some (P:=P) w 1 (Jt s).length ⟨bx,ox,U⟩ (Jt s).length cap olds hlo (λjj v e=>by
     rcases x0 with x0|x0
     .have h0:(Jt s).length=0:=AC
      simp_all
     .have x0:U=none:=x0
      subst x0
      rw [B9];exact o2 jj v e)
    have hl:(loadCells ⟨bx,ox,U⟩ (Jt s).length).run P w=.ok ((s.map λb=>(b.toNat:Int)).map (Value.int .u8)).toArray w:=by
     rw [<-hol]
     simpa [Builtin.firstCells] using hf
    have:=run_bytesToString (P:=P) w ⟨bx,ox,U⟩ (Jt s).length cap _ hl
    rw [this,show ByteArray.empty=⟨([]:List UInt8).toArray⟩ from rfl,QW];rfl
  refine ⟨.string ⟨s.toArray⟩,w,.str s,I,_,?_,hr,by simp only [AH];exact ⟨trivial,by rw [bl] at x3;exact x3⟩,k⟩
  have hcv:(convert t u (a.eval x)).run P w=.ok (.string ⟨s.toArray⟩) w:=by
   rw [<-key,e1]
   exact run_convert_bytes_string (P:=P) w t u el ax _ cap g2 hd2 hd
  simp only [execOp,hc,Sem.run_bind,hcv,Result.andThen_ok,Sem.run_pure]
end
end Go.Aw
namespace Go.Proofs.Z
open Go Go.Aw
section
variable {st:St} {R:At->St->Prop}
attribute [local irreducible] Go.Aw.Ag
theorem ki (hp:s.length<=i) (h:R (.ret (.Bj [.int .i64 0,.slice 1 (ints []) .full,.int .i64 0,.int .i64 0])) st):PC 205 [.str s,.int .i64 i] st R:=by
 refine pB Tryz.func205 ?_
 have U:¬(i:Int)<0:=AC
 have h1:(s.length:Int)<=(i:Int):=AC
 repeat' ((conv=>whnf);first|refine Ww U ?_|refine Wv h1 ?_|(refine Br ?_;intros)|fail)
 all_goals exact fin h rfl
theorem kf (hl:s.length<=100000000) (h:∀o own,AA.Bw st own->R (.ret (.Bj [.int .i64 (Bs s 0).1,.slice 1 (ints o) own,.int .i64 (Bs s 0).2.1,.int .i64 (Bs s 0).2.2])) (AA.st st (List.length o) own)):PC 205 [.str s,.int .i64 0] st R:=by
 by_cases U:s=[]
 .subst U
  exact ki (i:=0) (Nat.le_refl _) (h [] .full trivial)
 .exact oz (i:=0) hl (List.length_pos_iff.2 U) h
theorem SI (hl:s.length<=100000000) (h:∀o st',st.le st'->R (.ret (.Bj [.slice 1 (ints o) .any,.int .i64 (Eg s)])) st'):PC 171 [.str s] st R:=by
 refine pB Tryz.func171 ?_
 have hw:∀e:Int,e=Eg s->∀o st',st.le st'->R (.ret (.Bj [.slice 1 (ints o) .any,.int .i64 e])) st':=λe he=>by rw [he];exact h
 unfold Eg at hw
 clear h
 repeat' ((conv=>whnf);first|(refine Br ?_;intros)|(refine BR ?_ ?_<;>intro _)|refine kf hl (λo own U=>?_))
 all_goals first
  |exact DK (r:=.ret (.Bj [.slice 1 (ints []) .any,.int .i64 _])) (AA.Bi U) rfl (hw _ (by repeat' split;all_goals omega) [] _ (St.le_refl _))
  |exact DK (r:=.ret (.Bj [.slice 1 (ints o) .any,.int .i64 _])) (AA.Bi U) rfl (hw _ (by repeat' split;all_goals omega) o _ (St.le_refl _))
theorem rW (hl:s.length<=100000000) (hi:i<s.length) (h92:AE (s.drop i)=92) (hg:Ch (s.drop i)=0) (hp:Dq true (s.drop i)=some p) (h:∀v,R (.ret (.Bj [.int .i64 v,.int .i64 (i+p.2:Nat)])) st):PC 173 [.str s,.int .i64 i] st R:=
 Ur hl hi λv e hE=>by
  have U:=Ih (tx:=true) h92 (.inr hg)
  obtain ⟨q1,q2⟩:=pG U hE
  rw [hp] at U
  have hv:v≠ -1:=λe=>by rw [q1 e] at U;cases U
  obtain ⟨u,n,q3,_,q4⟩:=q2 hv
  rw [U] at q3
  injection q3 with q3
  have:e=((i+p.2:Nat):Int):=by rw [q4,q3];simp
  rw [this];exact h v
theorem Ka {α:Type} {l:List α} (h:i<l.length) {n:Nat} (hn:0<n):(l.drop i).take n≠[]:=λe=>by
 have:=congrArg List.length e
 rw [List.length_take,List.length_drop,List.length_nil] at this;omega
theorem SH (hl:s.length<=100000000) (h1:∀e,Lf s=.inl e->∀st',st.le st'->R (.ret (.Bj [.str [],.int .i64 e])) st') (h2:∀u,Lf s=.inr u->∀st',st.le st'->R (.ret (.Bj [.str u,.int .i64 0])) st'):PC 128 [.str s] st R:=by
 refine AP Ab [] Tryz.func128 rfl Do rfl ?_
 by_cases hz:Eg s=0
 .have hq:=MA hz
  have hp:=rJ hz
  replace h2:=h2 _ hq
  clear h1 hq
  generalize HP s 0 (Lg s 0)=u at h2 hp
  have hr:∀{st:St} {R:At->St->Prop},(∀o st',st.le st'->R (.ret (.Bj [.slice 1 (ints o) .any,.int .i64 0])) st')->PC 171 [.str s] st R:=λh=>SI hl (by rw [hz];exact h)
  refine Af (Ae Ab ?_)
  repeat' ((conv=>whnf);first|(refine Br ?_;intros)|fail)
  refine Af (Ae Ab ?_)
  repeat' ((conv=>whnf);first|(refine Br ?_;intros)|refine hr (λo st1 hle1=>?_))
  refine Af (Ae Ab ?_)
  repeat' ((conv=>whnf);first|(refine Br ?_;intros)|fail)
  refine Af (Ae Ab ?_)
  repeat' ((conv=>whnf);first|(refine Br ?_;intros)|fail)
  refine Af (Pa (UZ (α:=Nat×List UInt8×AA) (λy=>[(6,.slice 1 (Jt y.2.1) y.2.2),(7,.int .i64 (y.1:Int))]) (λ_=>[]) [0] [] (λy=>y.2.2.st st1 y.2.1.length) (λy=>y.1<=s.length/\y.2.2.Bw st1/\y.2.1.length<=3*y.1/\∃o,Pl (s.drop y.1) o/\y.2.1++o=u) (λy=>s.length - y.1) (0,[],.full) ⟨Nat.zero_le _,trivial,Nat.le_refl _,u,hp,rfl⟩ Yl (St.le_refl _) ?_))
  rintro ⟨i,out,own⟩ ⟨j1,j2,j3,o,j4,j5⟩
  dsimp only at j1 j2 j3 j4 j5 |-
  by_cases hlt:i<s.length
  .obtain ⟨e,he⟩:∃e,s[i]? =some e:=⟨s[i],List.getElem?_eq_getElem hlt⟩
   have he':s[(i:Int).toNat]? =some e:=he
   have hv:=Ck he
   have hdr:=drop_at he
   have hli:(i:Int)<(s.length:Int):=AC
   refine Af (Ae Ab ?_)
   repeat' ((conv=>whnf);first|refine Wv hli ?_|(refine Br ?_;intros)|fail)
   refine Pa (Af (Ae Ab ?_))
   repeat' ((conv=>whnf);first|(refine Br ?_;intros)|fail)
   by_cases h92:((e.toNat:Nat):Int)=92
   .have hq:AE (s.drop i)=92:=AC
    rcases j4.qV hq with ⟨hg,o',rfl,k1⟩|⟨hg,p,o',hp2,rfl,k1⟩
    .have hge:=gQ hg
     have hgl:=au (s.drop i)
     rw [List.length_drop] at hgl
     rw [List.drop_drop] at k1
     refine Af (Ae Ab ?_)
     repeat' ((conv=>whnf);first|(refine Br ?_;intros)|refine Us hge hl hq ?_|refine qq (new:=[92,32,92]) j2 (by simp only [List.length_cons,List.length_nil]<;>omega) (λU hw2=>?_))
     all_goals conv=>whnf
     all_goals exact ⟨(i+Ch (s.drop i),out++[92,32,92],U),⟨So,hw2,PP,o',k1,by rw [<-j5,List.append_assoc]⟩,So,Yl,St.le_refl _⟩
    .have hgl:=Tz hp2
     rw [List.length_drop] at hgl
     rw [List.drop_drop] at k1
     have hwd:∀{K:Int->Prop},K (p.2:Int)->∃r,r=IntKind.i64.wrap (((i+p.2:Nat):Int) - (i:Int))/\K r:=λk=>L2 AC AC AC k
     have hne:=Ka hlt (n:=p.2) AC
     have hln:((s.drop i).take p.2).length=p.2:=by rw [List.length_take,List.length_drop];omega
     have hw1:∀{K:Int->Prop},K ((i+p.2:Nat):Int)->∃r,r=IntKind.i64.wrap ((i:Int)+(p.2:Int))/\K r:=λk=>L2 AC AC AC k
     have hw2':∀{K:Int->Prop},K ((i+p.2:Nat):Int)->∃r,r=IntKind.i64.wrap ((i:Int)+(p.2:Int))/\K r:=hw1
     have hsl:∀{K:List UInt8->Prop},K ((s.drop i).take p.2)->(0<=(i:Int)/\(i:Int)<=((i+p.2:Nat):Int)/\((i+p.2:Nat):Int)<=s.length)/\∀s',s'=(s.take ((i+p.2:Nat):Int).toNat).drop (i:Int).toNat->K s':=λk=>⟨AC,λs' e=>by subst e;rw [Int.toNat_natCast,Int.toNat_natCast,List.drop_take,show i+p.2 - i=p.2 by omega];exact k⟩
     refine Af (Ae Ab ?_)
     repeat' ((conv=>whnf);first|refine hwd ?_|(refine Br ?_;intros)|refine Us (gP hg) hl hq ?_|refine rW hl hlt hq hg hp2 (λv=>?_))
     refine Af (MY (S3 Ab 7 rfl ?_))
     repeat' ((conv=>whnf);first|refine hw1 ?_|refine hsl ?_|(refine Br ?_;intros)|fail)
     refine Pg Ab.t rfl rfl rfl rfl rfl rfl j2 hne AC (λU hw2=>?_)
     conv=>whnf
     refine S2 Ab rfl ?_
     repeat' ((conv=>whnf);first|(refine Br ?_;intros)|fail)
     refine Ae Ab ?_
     repeat' ((conv=>whnf);first|refine hw2' ?_|(refine Br ?_;intros)|fail)
     all_goals conv=>whnf
     all_goals exact ⟨(i+p.2,out++(s.drop i).take p.2,U),⟨So,hw2,by dsimp only;rw [List.length_append];omega,o',k1,by dsimp only;rw [<-j5,List.append_assoc]⟩,So,Yl,St.le_refl _⟩
   .rw [hdr] at j4
    obtain ⟨o',rfl,k1⟩:=j4.gY h92
    have hne:=Ka hlt (n:=1) AC
    have hln:((s.drop i).take 1).length=1:=by rw [List.length_take,List.length_drop];omega
    have hw1:∀{K:Int->Prop},K ((i+1:Nat):Int)->∃r,r=IntKind.i64.wrap ((i:Int)+1)/\K r:=λk=>L2 AC AC AC k
    have hw2':∀{K:Int->Prop},K ((i+1:Nat):Int)->∃r,r=IntKind.i64.wrap ((i:Int)+1)/\K r:=hw1
    have hsl:∀{K:List UInt8->Prop},K ((s.drop i).take 1)->(0<=(i:Int)/\(i:Int)<=((i+1:Nat):Int)/\((i+1:Nat):Int)<=s.length)/\∀s',s'=(s.take ((i+1:Nat):Int).toNat).drop (i:Int).toNat->K s':=λk=>⟨AC,λs' e=>by subst e;rw [Int.toNat_natCast,Int.toNat_natCast,List.drop_take,show i+1 - i=1 by omega];exact k⟩
    refine Af (Ae Ab ?_)
    repeat' ((conv=>whnf);first|(refine Br ?_;intros)|fail)
    refine Af (MY (S3 Ab 7 rfl ?_))
    repeat' ((conv=>whnf);first|refine hw1 ?_|refine hsl ?_|(refine Br ?_;intros)|fail)
    refine Pg Ab.t rfl rfl rfl rfl rfl rfl j2 hne AC (λU hw2=>?_)
    conv=>whnf
    refine S2 Ab rfl ?_
    repeat' ((conv=>whnf);first|(refine Br ?_;intros)|fail)
    refine Ae Ab ?_
    repeat' ((conv=>whnf);first|refine hw2' ?_|(refine Br ?_;intros)|fail)
    all_goals conv=>whnf
    all_goals exact ⟨(i+1,out++(s.drop i).take 1,U),⟨So,hw2,by dsimp only;rw [List.length_append];omega,o',k1,by dsimp only;rw [<-j5,List.append_assoc];rw [hdr];rfl⟩,So,Yl,St.le_refl _⟩
  .obtain rfl:i=s.length:=AC
   rw [List.drop_of_length_le (Nat.le_refl _)] at j4
   have ho:o=[]:=by
    generalize hE:([]:List UInt8)=l at j4
    cases j4 with
    |nil=>rfl
    |byte h1 h2=>cases hE
    |D6 h1 h2=>subst hE;exact absurd h1 Do
    |s9 h1 h2 h3 h4=>subst hE;exact absurd h1 Do
   rw [ho,List.append_nil] at j5
   subst j5
   have hli:¬(s.length:Int)<(s.length:Int):=AC
   refine Af (Ae Ab ?_)
   repeat' ((conv=>whnf);first|refine Ww hli ?_|(refine Br ?_;intros)|fail)
   refine Af (MY (S3 Ab 1 rfl ?_))
   repeat' ((conv=>whnf);first|(refine Br ?_;intros)|fail)
   refine lL Ab.t rfl rfl rfl rfl rfl rfl ?_
   conv=>whnf
   refine S2 Ab rfl ?_
   repeat' ((conv=>whnf);first|(refine Br ?_;intros)|fail)
   refine Ae Ab ?_
   conv=>whnf
   exact DK (r:=.ret (.Bj [.str out,.int .i64 0])) (St.le_trans hle1 (AA.Bi j2)) rfl (h2 _ (St.le_refl _))
 .have hq:=QX hz
  refine Ae Ab ?_
  repeat' ((conv=>whnf);first|(refine Br ?_;intros)|refine SI hl (λo st1 hle1=>?_))
  all_goals exact DK (r:=.ret (.Bj [.str [],.int .i64 _])) hle1 rfl (h1 _ hq _ (St.le_refl _))
end
theorem Qy {st:St} {b:Nat} (h:st.le m) (hb:m.fresh b):st.fresh b:=by
 refine ⟨?_,?_⟩
 .cases e:st.box b with
  |none=>rfl
  |some c=>have:=h.1 b c e;rw [hb.1] at this;cases this
 .cases e:st.hw b with
  |none=>rfl
  |some c=>have:=h.2 b c e;rw [hb.2] at this;cases this
structure S1 (sz:Nat) (st m:St) (o:AA) (k:Nat):Prop where
 le:st.le m
 ok:match o with| .full=>True| .any=>False| .tok b=>st.fresh b/\m.hw b=some (k*sz)
theorem S1.grow {sz:Nat} {st U:St} {n:Nat} (h:S1 sz st m o n) (k:m.le U):S1 sz st U o n:=⟨St.le_trans h.le k,by
 have:=h.ok
 cases o with
 |full=>trivial
 |any=>exact this
 |tok b=>exact ⟨this.1,k.2 _ _ this.2⟩⟩
theorem S1.app {sz bytes:Nat} {st:St} {es new:List (List V)} (h:S1 sz st m o es.length) (hb:(es.length+new.length)*bytes<=140737488355328) (hl:es.length+new.length<C9) (hs:(new.all λv=>v.all V.sc)=true) (hw:new.map (·.map V.Jl)=new)
 (k:∀o' m',S1 sz st m' o' (es.length+new.length)->K (.slice sz (es++new) o') m'):Ag sz bytes es o new m K:=by
 refine ⟨hb,hl,AL hs ?_⟩
 cases o with
 |any=>exact h.ok.elim
 |full=>exact ⟨λe=>(by subst e;rw [List.append_nil] at k;exact k _ _ ⟨h.le,trivial⟩),λ_=>.inl λb hf=>by
   rw [hw]
   exact k _ _ ⟨St.Fb h.le (Qy h.le hf).2 _,Qy h.le hf,by simp [St.BB]⟩⟩
 |tok b=>
  obtain ⟨h1,h2⟩:=h.ok
  refine ⟨h2,.inl λb' hf=>?_⟩
  rw [hw]
  have hld:st.le (m.Dd b):=⟨h.le.1,λy c hy=>by
   have hyb:y≠b:=λe=>by subst e;rw [h1.2] at hy;cases hy
   show (if y=b then none else m.hw y)=some c
   rw [if_neg hyb]
   exact h.le.2 _ _ hy⟩
  have U:st.fresh b':=hf.elim (λe=>e ▸ h1) (λe=>Qy h.le e)
  exact k _ _ ⟨St.Fb hld U.2 _,U,by simp [St.BB]⟩
section
variable {st:St} {R:At->St->Prop}
attribute [local irreducible] Go.Aw.Ag
theorem dO (hl:s.length<=100000000) (hq:Lf s=.inl e) (h:∀st',st.le st'->R (.ret (.Bj [.str [],.int .i64 e])) st'):PC 128 [.str s] st R:=
 SH hl (λe' U st' k=>by rw [hq] at U;cases U;exact h st' k) (λu U=>by rw [hq] at U;cases U)
theorem dP {u:List UInt8} (hl:s.length<=100000000) (hq:Lf s=.inr u) (h:∀st',st.le st'->R (.ret (.Bj [.str u,.int .i64 0])) st'):PC 128 [.str s] st R:=
 SH hl (λe' U=>by rw [hq] at U;cases U) (λv U st' k=>by rw [hq] at U;cases U;exact h st' k)
theorem QY (hl:n.text.length<=100000000) (h:∀st',st.le st'->R (.ret (.str (UY n.form n.text))) st'):PC 86 [enc n] st R:=by
 refine pB Tryz.func86 ?_
 by_cases hf:n.form=13\/n.form=14
 .cases hq:Lf n.text with
  |inl e=>
   have he:e≠0:=λe0=>by
    subst e0
    by_cases hz:Eg n.text=0
    .rw [MA hz] at hq;cases hq
    .rw [QX hz] at hq;injection hq with hq;exact hz hq
   have hp:UY n.form n.text=n.text:=by unfold UY;rw [if_pos hf,hq]
   rw [hp] at h
   repeat' ((conv=>whnf);first|(refine A1 ?_;intros)|(refine CZ ?_ ?_<;>intro _)|refine dO hl hq (λst1 U=>?_))
   all_goals first|exact fin (h _ U) rfl|(exfalso;omega)
  |inr u=>
   have hp:UY n.form n.text=u:=by unfold UY;rw [if_pos hf,hq]
   rw [hp] at h
   repeat' ((conv=>whnf);first|(refine A1 ?_;intros)|(refine CZ ?_ ?_<;>intro _)|refine dP hl hq (λst1 U=>?_))
   all_goals first|exact fin (h _ U) rfl|(exfalso;omega)
 .have hp:UY n.form n.text=n.text:=if_neg hf
  rw [hp] at h
  repeat' ((conv=>whnf);first|(refine A1 ?_;intros)|(refine CZ ?_ ?_<;>intro _)|fail)
  all_goals first|exact fin (h _ (St.le_refl _)) rfl|(exfalso;omega)
theorem Q8:∀(m:Nat) {n:Nd} {st:St} {R:At->St->Prop},n.size<=m->n.size<=900000000->C7 n<=100000000->(∀st',st.le st'->R (.ret (enc (Av n))) st')->PC 57 [enc n] st R:=by
 intro m
 induction m with
 |zero=>intro n st R hm;cases n;rw [Nd.size] at hm;omega
 |succ m ih=>
  intro n st R hm hz ht h
  cases n with
  |mk k f t l c ks=>
   rw [C7] at ht
   have hks:ks.length<=900000000:=by have:ks.length<_:=EW (.mk k f t l c ks);omega
   refine pB Tryz.func57 ?_
   by_cases hk:k=1
   .rw [Av,if_pos hk] at h
    have hk':(Nd.mk k f t l c ks).kind=1:=hk
    have hs:∀{st:St} {R:At->St->Prop},(∀st',st.le st'->R (.ret (.str (UY f t))) st')->PC 86 [enc (.mk k f t l c ks)] st R:=λh=>QY (n:=.mk k f t l c ks) (by show t.length<=_;omega) h
    repeat' ((conv=>whnf);first|exact B1|(refine A1 ?_;intros)|(refine B2 ?_ ?_ ?_;rotate_left)|refine hs (λst1 hle1=>?_)|refine AM [1,3,5,7,9,13,15,10,17,18] [1] ?_|refine Ad 12 [7,9,11] [2] ?_|fail)
    all_goals first|exact Bm rfl (h _ hle1)|exact absurd hk ‹_›
   .rw [Av,if_neg hk,Hx] at h
    have hk':¬(Nd.mk k f t l c ks).kind=1:=hk
    repeat' ((conv=>whnf);first|exact B1|(refine A1 ?_;intros)|(refine B2 ?_ ?_ ?_;rotate_left)|fail)
    refine Gg (α:=Nat×AA×St) (λy=>[(4,.int .i64 (y.1:Nat))]) [1,2,3] (λy=>[(2,[.int .i64 k,.int .i64 f,.str t,.int .i64 0,.int .i64 0,.slice 6 (((ks.take y.1).map Av).map AB) y.2.1])]) [0,1] (λy=>y.2.2) (λy=>y.1<=ks.length/\Rx st y.2.2 [(y.2.1,(ks.take y.1).map Av)]) (λy=>ks.length - y.1) (0,.full,st) ⟨Nat.zero_le _,Rx.start.push []⟩ Yl (St.le_refl _) ?_
    rintro ⟨i,w,st1⟩ ⟨j1,j2⟩
    dsimp only at j1 j2
    by_cases hlt:i<ks.length
    .obtain ⟨x,hx⟩:∃x,ks[(i:Int).toNat]? =some x:=⟨_,List.getElem?_eq_getElem hlt⟩
     have U:=List.mem_of_getElem? hx
     have hsz:=Cb (n:=.mk k f t l c ks) U
     have htl:=JR U
     have htk:(ks.take (i+1)).map Av=(ks.take i).map Av++[Av x]:=by rw [List.take_add_one,show ks[i]? =some x from hx,List.map_append];rfl
     have hrec:∀{st:St} {R:At->St->Prop},(∀st',st.le st'->R (.ret (enc (Av x))) st')->PC 57 [enc x] st R:=λh=>ih AC AC AC h
     have hli:(i:Int)<(ks.length:Int):=AC
     repeat' ((conv=>whnf);first|refine Wm hx AC ?_|refine Wv hli ?_|exact B1|(refine A1 ?_;intros)|(refine B2 ?_ ?_ ?_;rotate_left)|refine hrec (λst2 hle2=>?_)|refine Rx.Fo (j2.grow hle2) (by rw [List.length_map,List.length_take]<;>omega) (λown3 st3 hr3=>?_)|refine Wq (a:=(i:Int)+1) AC AC ?_|refine AM [1,3,5,7,9,13,15,10,17,18] [1] ?_|refine Ad 12 [7,9,11] [2] ?_|fail)
     all_goals conv=>whnf
     all_goals exact ⟨(i+1,own3,st3),⟨hlt,by rw [htk];exact hr3⟩,Nat.sub_lt_sub_left hlt (Nat.lt_succ_self i),by dsimp only;rw [htk];exact Yl,St.le_refl _⟩
    .have hi:i=ks.length:=AC
     subst hi
     rw [List.take_length] at j2 |-
     have hli:¬(ks.length:Int)<(ks.length:Int):=AC
     repeat' ((conv=>whnf);first|refine Ww hli ?_|exact B1|(refine A1 ?_;intros)|(refine B2 ?_ ?_ ?_;rotate_left)|fail)
     all_goals exact Bm Qb (h _ j2.le)
theorem S1.txt {st m:St} {o:AA} {l l':List (List UInt8)} {K:V->St->Prop} (h:S1 1 st m o l.length) (hb:l.length+l'.length<=100000000) (k:∀o' m',S1 1 st m' o' (l++l').length->K (.slice 1 (strs (l++l')) o') m'):Ag 1 16 (strs l) o (strs l') m K:=by
 have hl:∀l:List (List UInt8),(strs l).length=l.length:=λl=>List.length_map _
 have e:strs l++strs l'=strs (l++l'):=(List.map_append ..).symm
 refine S1.app (by rw [hl];exact h) (by rw [hl,hl];omega) (by rw [hl,hl];simp only [C9];omega) ?_ ?_ (λo' m' h'=>?_)
 .unfold strs
  rw [List.all_map,List.all_eq_true]
  intro x _;rfl
 .unfold strs
  rw [List.map_map]
  exact List.map_congr_left λx _=>rfl
 .rw [hl,hl,<-List.length_append] at h'
  rw [e];exact k _ _ h'
theorem ko:∀(d:Nat) {n:Nd} {l:List (List UInt8)} {o:AA} {m:St} {R:At->St->Prop},n.size<=d->n.size<=900000000->C7 n<=100000000->l.length+(CR (Av n)).length<=90000000->S1 1 st m o l.length->(∀o' m',S1 1 st m' o' (l++CR (Av n)).length->R (.ret (.slice 1 (strs (l++CR (Av n))) o')) m')->PC 55 [.slice 1 (strs l) o,enc n] m R:=by
 intro d
 induction d with
 |zero=>intro n l o m R hm;cases n;rw [Nd.size] at hm;omega
 |succ d ih=>
  intro n l o m R hm hz ht hM hw h
  cases n with
  |mk k f t p c ks=>
   have hks:ks.length<=900000000:=by have:ks.length<_:=EW (.mk k f t p c ks);omega
   rw [C7] at ht
   refine pB Tryz.func55 ?_
   by_cases hk:k=1
   .have hk':(Nd.mk k f t p c ks).kind=1:=hk
    rw [Av,if_pos hk,CR,if_pos hk] at h hM
    have hs:∀{st:St} {R:At->St->Prop},(∀st',st.le st'->R (.ret (.str (UY f t))) st')->PC 86 [enc (.mk k f t p c ks)] st R:=λh=>QY (n:=.mk k f t p c ks) (by show t.length<=_;omega) h
    repeat' ((conv=>whnf);first|(refine A1 ?_;intros)|refine hs (λm1 hle1=>?_)|refine S1.txt (l':=[_]) (hw.grow hle1) (by rw [List.length_singleton] at hM |-<;>omega) (λo2 m2 hw2=>?_))
    all_goals exact fin (h _ _ hw2) rfl
   .have hk':¬(Nd.mk k f t p c ks).kind=1:=hk
    rw [Av,if_neg hk,CR,if_neg hk,Hx] at h hM
    by_cases hb:k=2
    .have hb':(Nd.mk k f t p c ks).kind=2:=hb
     rw [if_pos hb] at h hM
     have hpl:l.length+(Cc true (ks.map Av) ks.length).length+1<=90000000:=by unfold Cc;rw [show ks.length=(ks.map Av).length from (List.length_map _).symm,List.take_length];simp only [List.length_append,List.length_cons,List.length_nil,if_true] at hM |-;omega
     repeat' ((conv=>whnf);first|(refine A1 ?_;intros)|refine S1.txt (l':=[[123]]) hw (by rw [List.length_singleton]<;>omega) (λo2 m2 hw2=>?_))
     refine HN (α:=Nat×AA×St) (λy=>[(0,.slice 1 (strs (l++Cc true (ks.map Av) y.1)) y.2.1),(5,.int .i64 (y.1:Int))]) (λ_=>[]) [3] [0] (λy=>y.2.2) (λy=>y.1<=ks.length/\S1 1 st y.2.2 y.2.1 (l++Cc true (ks.map Av) y.1).length) (λy=>ks.length - y.1) (0,o2,m2) ⟨Nat.zero_le _,hw2⟩ Yl (St.le_refl _) ?_
     rintro ⟨i,o3,m3⟩ ⟨hi,hw3⟩
     dsimp only at hi hw3 |-
     by_cases hlt:i<ks.length
     .obtain ⟨x,hx⟩:∃x,ks[(i:Int).toNat]? =some x:=⟨_,List.getElem?_eq_getElem hlt⟩
      have hx':(ks.map Av)[i]? =some (Av x):=by rw [List.getElem?_map,show ks[i]? =some x from hx];rfl
      have hmem:=List.mem_of_getElem? hx
      have hsz:=Cb (n:=.mk k f t p c ks) hmem
      have htl:=JR hmem
      have U:=G0 (b:=true) hx'
      have hpm:=Mv (b:=true) (ks:=ks.map Av) (i:=i+1) (by rw [List.length_map];exact hlt)
      rw [List.length_map] at hpm
      have hli:(i:Int)<(ks.length:Int):=AC
      by_cases hi0:0<i
      .have hi1:(0:Int)<(i:Int):=AC
       rw [if_pos ⟨rfl,hi0⟩] at U
       rw [U] at hpm
       simp only [List.length_append,List.length_cons,List.length_nil] at hpm
       repeat' ((conv=>whnf);first|refine Wv hli ?_|refine Wv hi1 ?_|refine Wm hx AC ?_|(refine A1 ?_;intros)|refine S1.txt (l':=[[59]]) hw3 (by rw [List.length_singleton,List.length_append]<;>omega) (λo4 m4 hw4=>?_)|refine ih (n:=x) (l:=l++Cc true (ks.map Av) i++[[59]]) AC AC AC RK hw4 (λo5 m5 hw5=>?_)|refine Wq (a:=(i:Int)+1) AC AC ?_)
       all_goals conv=>whnf
       all_goals exact ⟨(i+1,o5,m5),⟨hlt,by dsimp only;rw [U];simpa only [List.append_assoc] using hw5⟩,Nat.sub_lt_sub_left hlt (Nat.lt_succ_self i),by dsimp only;rw [U,<-List.append_assoc,<-List.append_assoc];exact Yl,St.le_refl _⟩
      .obtain rfl:i=0:=AC
       rw [if_neg AC] at U
       rw [U] at hpm
       simp only [List.length_append,List.length_nil] at hpm
       repeat' ((conv=>whnf);first|refine Wv hli ?_|refine Wm hx AC ?_|(refine A1 ?_;intros)|refine ih (n:=x) (l:=l++Cc true (ks.map Av) 0) AC AC AC (by simp only [List.length_append]<;>omega) hw3 (λo5 m5 hw5=>?_)|refine Wq (a:=((0:Nat):Int)+1) AC AC ?_)
       all_goals conv=>whnf
       all_goals exact ⟨(0+1,o5,m5),⟨hlt,by dsimp only;rw [U];simpa only [List.append_assoc,List.nil_append] using hw5⟩,Nat.sub_lt_sub_left hlt (Nat.lt_succ_self 0),by dsimp only;rw [U,List.nil_append,<-List.append_assoc];exact Yl,St.le_refl _⟩
     .obtain rfl:i=ks.length:=AC
      have hli:¬(ks.length:Int)<(ks.length:Int):=AC
      have hend:l++Cc true (ks.map Av) ks.length++[[125]]=l++([[123]]++D0 true true (ks.map Av)++[[125]]):=by
       unfold Cc
       rw [show ks.length=(ks.map Av).length from (List.length_map _).symm,List.take_length,List.append_assoc];rfl
      rw [<-hend] at h
      repeat' ((conv=>whnf);first|refine Ww hli ?_|(refine A1 ?_;intros)|refine S1.txt (l':=[[125]]) hw3 (by rw [List.length_singleton,List.length_append]<;>omega) (λo4 m4 hw4=>?_))
      all_goals exact fin (h _ _ hw4) rfl
    .have hb':¬(Nd.mk k f t p c ks).kind=2:=hb
     rw [if_neg hb] at h hM
     have hpl:l.length+(Cc false (ks.map Av) ks.length).length<=90000000:=by unfold Cc;rw [show ks.length=(ks.map Av).length from (List.length_map _).symm,List.take_length];exact hM
     repeat' ((conv=>whnf);first|(refine A1 ?_;intros)|fail)
     refine HN (α:=Nat×AA×St) (λy=>[(0,.slice 1 (strs (l++Cc false (ks.map Av) y.1)) y.2.1),(6,.int .i64 (y.1:Int))]) (λ_=>[]) [3] [0] (λy=>y.2.2) (λy=>y.1<=ks.length/\S1 1 st y.2.2 y.2.1 (l++Cc false (ks.map Av) y.1).length) (λy=>ks.length - y.1) (0,o,m) ⟨Nat.zero_le _,by rw [show l++Cc false (ks.map Av) 0=l from List.append_nil _];exact hw⟩ (by rw [show l++Cc false (ks.map Av) 0=l from List.append_nil _];exact Yl) (St.le_refl _) ?_
     rintro ⟨i,o3,m3⟩ ⟨hi,hw3⟩
     dsimp only at hi hw3 |-
     by_cases hlt:i<ks.length
     .obtain ⟨x,hx⟩:∃x,ks[(i:Int).toNat]? =some x:=⟨_,List.getElem?_eq_getElem hlt⟩
      have hx':(ks.map Av)[i]? =some (Av x):=by rw [List.getElem?_map,show ks[i]? =some x from hx];rfl
      have hmem:=List.mem_of_getElem? hx
      have hsz:=Cb (n:=.mk k f t p c ks) hmem
      have htl:=JR hmem
      have U:=G0 (b:=false) hx'
      have hpm:=Mv (b:=false) (ks:=ks.map Av) (i:=i+1) (by rw [List.length_map];exact hlt)
      rw [List.length_map] at hpm
      have hli:(i:Int)<(ks.length:Int):=AC
      rw [if_neg GT] at U
      rw [U] at hpm
      simp only [List.length_append,List.length_nil] at hpm
      repeat' ((conv=>whnf);first|refine Wv hli ?_|refine Wm hx AC ?_|(refine A1 ?_;intros)|refine ih (n:=x) (l:=l++Cc false (ks.map Av) i) AC AC AC (by simp only [List.length_append]<;>omega) hw3 (λo5 m5 hw5=>?_)|refine Wq (a:=(i:Int)+1) AC AC ?_)
      all_goals conv=>whnf
      all_goals exact ⟨(i+1,o5,m5),⟨hlt,by dsimp only;rw [U];simpa only [List.append_assoc,List.nil_append] using hw5⟩,Nat.sub_lt_sub_left hlt (Nat.lt_succ_self i),by dsimp only;rw [U,List.nil_append,<-List.append_assoc];exact Yl,St.le_refl _⟩
     .obtain rfl:i=ks.length:=AC
      have hli:¬(ks.length:Int)<(ks.length:Int):=AC
      have hend:l++Cc false (ks.map Av) ks.length=l++D0 false true (ks.map Av):=by
       unfold Cc
       rw [show ks.length=(ks.map Av).length from (List.length_map _).symm,List.take_length];rfl
      rw [<-hend] at h
      repeat' ((conv=>whnf);first|refine Ww hli ?_|(refine A1 ?_;intros)|fail)
      all_goals exact fin (h _ _ hw3) rfl
theorem cT {l:List (List UInt8)} {x:List UInt8} (h:l[i]? =some x):Lib.join (l.take (i+1)) [32]=Lib.join (l.take i) [32]++((if 0<i then [32] else [])++x):=by
 rw [ep h]
 by_cases hi:0<i
 .rw [if_pos hi]
  have U:l.take i≠[]:=λe=>by
   have:=congrArg List.length e
   have hlt:=(List.getElem?_eq_some_iff.1 h).1
   rw [List.length_take,List.length_nil] at this;omega
  rw [cU U,List.append_assoc]
 .obtain rfl:i=0:=AC
  rw [if_neg hi,List.take_zero,List.nil_append,Lib.join_one];rfl
theorem om (hz:n.size<=300000) (ht:C7 n<=100000000) (h:∀st',m.le st'->R (.ret (.str (N5 n))) st'):PC 25 [enc n] m R:=by
 refine pB Tryz.func25 ?_
 have hl:=Rz (Av n)
 have hps:=DY n
 have hpt:=Le n
 have hjl:=VQ (CR (Av n))
 unfold N5 at h
 have ht2:∀{R:At->St->Prop},(∀o' m',S1 1 m m' o' (CR (Av n)).length->R (.ret (.slice 1 (strs (CR (Av n))) o')) m')->PC 55 [.slice 1 [] .full,enc n] m R:=λh=>ko n.size (l:=[]) (o:=.full) (Nat.le_refl _) AC ht (by simp only [List.length_nil];omega) ⟨St.le_refl _,trivial⟩ h
 generalize CR (Av n)=X at h hl hjl ht2
 repeat' ((conv=>whnf);first|(refine A1 ?_;intros)|refine ht2 (λo m1 hw=>?_))
 have U:∀{K:Nat->Prop},(X.length<4611686018427387904->K X.length)->∀m,m=(strs X).length->m<C9->K m:=λk m hm h=>by
  rw [show (strs X).length=X.length from List.length_map _] at hm;subst hm;exact k h
 refine HN (α:=Nat) (λi=>[(4,.str (Lib.join (X.take i) [32])),(5,.int .i64 (i:Int))]) (λ_=>[]) [3] [] (λ_=>m1) (λi=>i<=X.length) (λi=>X.length - i) 0 (Nat.zero_le _) Yl (St.le_refl _) ?_
 intro i hi
 by_cases hlt:i<X.length
 .obtain ⟨x,hx⟩:∃x,X[(i:Int).toNat]? =some x:=⟨_,List.getElem?_eq_getElem hlt⟩
  have hnx:=cT (show X[i]? =some x from hx)
  have hjt:=cV (l:=X) (i+1)
  rw [hnx] at hjt
  have hli:(i:Int)<(X.length:Int):=AC
  have hat:∀{K:List V->Prop},K [.str x]->0<=(i:Int)/\∃e,(strs X)[(i:Int).toNat]? =some e/\K e:=λk=>⟨AC,_,by simp only [strs,List.getElem?_map,hx];rfl,k⟩
  by_cases hi0:0<i
  .have hi1:(0:Int)<(i:Int):=AC
   rw [if_pos hi0] at hnx hjt
   simp only [List.length_append,List.length_cons,List.length_nil] at hjt
   have c1:∀{p:Prop},p->(Lib.join (X.take i) [32]).length+[32].length<C9/\p:=λh=>⟨by simp only [List.length_cons,List.length_nil,C9];omega,h⟩
   have c2:∀{p:Prop},p->(Lib.join (X.take i) [32]++[32]).length+x.length<C9/\p:=λh=>⟨by simp only [List.length_append,List.length_cons,List.length_nil,C9];omega,h⟩
   repeat' ((conv=>whnf);first|refine U (λ_=>?_)|refine Wv hli ?_|refine Wv hi1 ?_|refine hat ?_|(refine A1 ?_;intros)|refine c1 ?_|refine c2 ?_|refine Wq (a:=(i:Int)+1) AC AC ?_)
   all_goals conv=>whnf
   all_goals exact ⟨i+1,hlt,Nat.sub_lt_sub_left hlt (Nat.lt_succ_self i),by dsimp only;rw [hnx,<-List.append_assoc];exact Yl,St.le_refl _⟩
  .obtain rfl:i=0:=AC
   rw [if_neg hi0] at hnx hjt
   simp only [List.length_append,List.length_nil] at hjt
   have c2:∀{p:Prop},p->(Lib.join (X.take 0) [32]).length+x.length<C9/\p:=λh=>⟨by simp only [C9];omega,h⟩
   repeat' ((conv=>whnf);first|refine U (λ_=>?_)|refine Wv hli ?_|refine hat ?_|(refine A1 ?_;intros)|refine c2 ?_|refine Wq (a:=((0:Nat):Int)+1) AC AC ?_)
   all_goals conv=>whnf
   all_goals exact ⟨0+1,hlt,Nat.sub_lt_sub_left hlt (Nat.lt_succ_self 0),by dsimp only;rw [hnx,List.nil_append];exact Yl,St.le_refl _⟩
 .obtain rfl:i=X.length:=AC
  have hli:¬(X.length:Int)<(X.length:Int):=AC
  rw [List.take_length]
  repeat' ((conv=>whnf);first|refine U (λ_=>?_)|refine Ww hli ?_|(refine A1 ?_;intros)|fail)
  all_goals exact fin (h _ hw.le) rfl
end
section
variable {st:St} {R:At->St->Prop}
attribute [local irreducible] Go.Aw.Ag
theorem RU {a b:Nd} (ha:a.size+C7 a<=1048576) (hb:b.size+C7 b<=1048576) (h:∀st',st.le st'->R (.ret (.bool true)) st'):PC 9 [enc a,enc b] st R:=by
 refine pB Tryz.func9 ?_
 have s1:∀{st:St} {R:At->St->Prop},R (.ret (.int .i64 (a.size:Nat))) st->PC 22 [enc a] st R:=λh=>MH _ (Nat.le_refl _) AC h
 have s2:∀{st:St} {R:At->St->Prop},R (.ret (.int .i64 (b.size:Nat))) st->PC 22 [enc b] st R:=λh=>MH _ (Nat.le_refl _) AC h
 have k1:∀{st:St} {R:At->St->Prop},(∀st',st.le st'->R (.ret (.bool true)) st')->PC 29 [enc a,enc a] st R:=λh=>JZ AC AC AC AC (by rw [alike_refl];exact h)
 have k2:∀{st:St} {R:At->St->Prop},(∀st',st.le st'->R (.ret (enc (Bl a))) st')->PC 27 [enc a] st R:=λh=>LJ _ (Nat.le_refl _) AC h
 have k3:∀{st:St} {R:At->St->Prop},(∀st',st.le st'->R (.ret (.bool true)) st')->PC 29 [enc a,enc (Bl a)] st R:=λh=>JZ AC (by rw [M8];omega) AC (by rw [Sf];omega) (by rw [X4];exact h)
 have k4:∀{st:St} {R:At->St->Prop},(∀st',st.le st'->R (.ret (.bool (Dl a b))) st')->PC 29 [enc a,enc b] st R:=λh=>JZ AC AC AC AC h
 have k5:∀{st:St} {R:At->St->Prop},(∀st',st.le st'->R (.ret (.bool (Dl a b))) st')->PC 29 [enc b,enc a] st R:=λh=>JZ AC AC AC AC (by rw [X6];exact h)
 have k6:∀{st:St} {R:At->St->Prop},R (.ret (.bool (EV a b))) st->PC 17 [enc a,enc b] st R:=λh=>Uw _ (Nat.le_refl _) h
 by_cases hz:a.size<=2000/\b.size<=2000
 .have g1:¬(2000:Int)<(a.size:Int):=AC
  have g2:¬(2000:Int)<(b.size:Int):=AC
  cases U:EV a b with
  |true=>
   have hal:=X5 U
   rw [U] at k6
   rw [hal] at k4 k5
   repeat' ((conv=>whnf);first|refine Ww g1 ?_|refine Ww g2 ?_|exact B1|(refine A1 ?_;intros)|(refine B2 ?_ ?_ ?_;rotate_left)|(refine CZ ?_ ?_<;>intro _)|refine DU (λst0 hle0=>?_)|refine s1 ?_|refine s2 ?_|refine k1 (λst1 hle1=>?_)|refine k2 (λst2 hle2=>?_)|refine k3 (λst3 hle3=>?_)|refine k4 (λst4 hle4=>?_)|refine k5 (λst5 hle5=>?_)|refine k6 ?_|refine AM [1,3,5,7,8,11,13,15,17,18,20,23,25,27,29,33,35,30,36,39,41,43,45,47,48,51,53,55,57,58,61,63,65] [] ?_|fail)
   all_goals exact fin (h _ (by repeat (first|assumption|refine St.le_trans ?_ ‹_›))) rfl
  |false=>
   rw [U] at k6
   cases hal:Dl a b with
   |true=>
    rw [hal] at k4 k5
    repeat' ((conv=>whnf);first|refine Ww g1 ?_|refine Ww g2 ?_|exact B1|(refine A1 ?_;intros)|(refine B2 ?_ ?_ ?_;rotate_left)|(refine CZ ?_ ?_<;>intro _)|refine DU (λst0 hle0=>?_)|refine s1 ?_|refine s2 ?_|refine k1 (λst1 hle1=>?_)|refine k2 (λst2 hle2=>?_)|refine k3 (λst3 hle3=>?_)|refine k4 (λst4 hle4=>?_)|refine k5 (λst5 hle5=>?_)|refine k6 ?_|refine AM [1,3,5,7,8,11,13,15,17,18,20,23,25,27,29,33,35,30,36,39,41,43,45,47,48,51,53,55,57,58,61,63,65] [] ?_|fail)
    all_goals exact fin (h _ (by repeat (first|assumption|refine St.le_trans ?_ ‹_›))) rfl
   |false=>
    rw [hal] at k4 k5
    repeat' ((conv=>whnf);first|refine Ww g1 ?_|refine Ww g2 ?_|exact B1|(refine A1 ?_;intros)|(refine B2 ?_ ?_ ?_;rotate_left)|(refine CZ ?_ ?_<;>intro _)|refine DU (λst0 hle0=>?_)|refine s1 ?_|refine s2 ?_|refine k1 (λst1 hle1=>?_)|refine k2 (λst2 hle2=>?_)|refine k3 (λst3 hle3=>?_)|refine k4 (λst4 hle4=>?_)|refine k5 (λst5 hle5=>?_)|refine k6 ?_|refine AM [1,3,5,7,8,11,13,15,17,18,20,23,25,27,29,33,35,30,36,39,41,43,45,47,48,51,53,55,57,58,61,63,65] [] ?_|fail)
    all_goals first|exact fin (h _ (by repeat (first|assumption|refine St.le_trans ?_ ‹_›))) rfl|exact absurd (by assumption:(!false)=false) Do
 .by_cases hz1:a.size<=2000
  .have g1:¬(2000:Int)<(a.size:Int):=AC
   have g2:(2000:Int)<(b.size:Int):=AC
   repeat' ((conv=>whnf);first|refine Ww g1 ?_|refine Wv g2 ?_|exact B1|(refine A1 ?_;intros)|(refine B2 ?_ ?_ ?_;rotate_left)|(refine CZ ?_ ?_<;>intro _)|refine DU (λst0 hle0=>?_)|refine s1 ?_|refine s2 ?_|fail)
   all_goals exact fin (h _ (by repeat (first|assumption|refine St.le_trans ?_ ‹_›))) rfl
  .have g1:(2000:Int)<(a.size:Int):=AC
   repeat' ((conv=>whnf);first|refine Wv g1 ?_|exact B1|(refine A1 ?_;intros)|(refine B2 ?_ ?_ ?_;rotate_left)|(refine CZ ?_ ?_<;>intro _)|refine DU (λst0 hle0=>?_)|refine s1 ?_|fail)
   all_goals exact fin (h _ (by repeat (first|assumption|refine St.le_trans ?_ ‹_›))) rfl
end
section
variable {st:St} {R:At->St->Prop}
attribute [local irreducible] Go.Aw.Ag
theorem NF:∀(m:Nat) {n:Nd} {st:St} {R:At->St->Prop},n.size<=m->n.size<=900000000->(∀st',st.le st'->R (.ret (enc (Bl n))) st')->PC 28 [enc n] st R:=by
 intro m
 induction m with
 |zero=>intro n st R hm;cases n;rw [Nd.size] at hm;omega
 |succ m ih=>
  intro n st R hm hz h
  cases n with
  |mk k f t l c ks=>
   have hks:ks.length<=900000000:=by have:ks.length<_:=EW (.mk k f t l c ks);omega
   refine pB Tryz.func28 ?_
   rw [Bl,KZ] at h
   have loop:∀(f':Int),(∀st',st.le st'->R (.ret (enc (.mk k f' t l c (ks.map Bl)))) st')->∀(i:Nat),i<ks.length->∃x,ks[i]? =some x/\(ks.take (i+1)).map Bl=(ks.take i).map Bl++[Bl x]/\x.size<=m/\x.size<=900000000:=λf' _ i U=>by
    have hx:ks[i]? =some ks[i]:=List.getElem?_eq_getElem U
    have hsz:=Cb (n:=.mk k f t l c ks) (List.mem_of_getElem? hx)
    exact ⟨_,hx,by rw [List.take_add_one,hx,List.map_append];rfl,AC,AC⟩
   by_cases hk:k=2
   .rw [if_pos hk] at h
    have hk':(Nd.mk k f t l c ks).kind=2:=hk
    repeat' ((conv=>whnf);first|(refine A1 ?_;intros)|fail)
    refine Gg (α:=Nat×AA×St) (λy=>[(4,.int .i64 (y.1:Nat)),(3,.slice 6 (((ks.take y.1).map Bl).map AB) y.2.1)]) [1,2] (λ_=>[]) [0,1] (λy=>y.2.2) (λy=>y.1<=ks.length/\Rx st y.2.2 [(y.2.1,(ks.take y.1).map Bl)]) (λy=>ks.length - y.1) (0,.full,st) ⟨Nat.zero_le _,Rx.start.push []⟩ Yl (St.le_refl _) ?_
    rintro ⟨i,w,st1⟩ ⟨j1,j2⟩
    dsimp only at j1 j2
    by_cases U:i<ks.length
    .obtain ⟨x,hx0,htk,hsm,hsz⟩:=loop _ h i U
     have hx:ks[(i:Int).toNat]? =some x:=hx0
     have hrec:∀{st:St} {R:At->St->Prop},(∀st',st.le st'->R (.ret (enc (Bl x))) st')->PC 28 [enc x] st R:=λh=>ih hsm hsz h
     have hli:(i:Int)<(ks.length:Int):=AC
     repeat' ((conv=>whnf);first|refine Wm hx AC ?_|refine Wv hli ?_|(refine A1 ?_;intros)|refine hrec (λst2 hle2=>?_)|refine Rx.Fo (j2.grow hle2) (by rw [List.length_map,List.length_take]<;>omega) (λown3 st3 hr3=>?_)|refine Wq (a:=(i:Int)+1) AC AC ?_)
     all_goals conv=>whnf
     all_goals exact ⟨(i+1,own3,st3),⟨U,by rw [htk];exact hr3⟩,Nat.sub_lt_sub_left U (Nat.lt_succ_self i),by dsimp only;rw [htk];exact Yl,St.le_refl _⟩
    .have hi:i=ks.length:=AC
     subst hi
     rw [List.take_length] at j2 |-
     have hli:¬(ks.length:Int)<(ks.length:Int):=AC
     repeat' ((conv=>whnf);first|refine Ww hli ?_|(refine A1 ?_;intros)|fail)
     all_goals exact Bm Qb (h _ j2.le)
   .rw [if_neg hk] at h
    have hk':¬(Nd.mk k f t l c ks).kind=2:=hk
    repeat' ((conv=>whnf);first|(refine A1 ?_;intros)|fail)
    refine Gg (α:=Nat×AA×St) (λy=>[(4,.int .i64 (y.1:Nat)),(3,.slice 6 (((ks.take y.1).map Bl).map AB) y.2.1)]) [1,2] (λ_=>[]) [0,1] (λy=>y.2.2) (λy=>y.1<=ks.length/\Rx st y.2.2 [(y.2.1,(ks.take y.1).map Bl)]) (λy=>ks.length - y.1) (0,.full,st) ⟨Nat.zero_le _,Rx.start.push []⟩ Yl (St.le_refl _) ?_
    rintro ⟨i,w,st1⟩ ⟨j1,j2⟩
    dsimp only at j1 j2
    by_cases U:i<ks.length
    .obtain ⟨x,hx0,htk,hsm,hsz⟩:=loop _ h i U
     have hx:ks[(i:Int).toNat]? =some x:=hx0
     have hrec:∀{st:St} {R:At->St->Prop},(∀st',st.le st'->R (.ret (enc (Bl x))) st')->PC 28 [enc x] st R:=λh=>ih hsm hsz h
     have hli:(i:Int)<(ks.length:Int):=AC
     repeat' ((conv=>whnf);first|refine Wm hx AC ?_|refine Wv hli ?_|(refine A1 ?_;intros)|refine hrec (λst2 hle2=>?_)|refine Rx.Fo (j2.grow hle2) (by rw [List.length_map,List.length_take]<;>omega) (λown3 st3 hr3=>?_)|refine Wq (a:=(i:Int)+1) AC AC ?_)
     all_goals conv=>whnf
     all_goals exact ⟨(i+1,own3,st3),⟨U,by rw [htk];exact hr3⟩,Nat.sub_lt_sub_left U (Nat.lt_succ_self i),by dsimp only;rw [htk];exact Yl,St.le_refl _⟩
    .have hi:i=ks.length:=AC
     subst hi
     rw [List.take_length] at j2 |-
     have hli:¬(ks.length:Int)<(ks.length:Int):=AC
     repeat' ((conv=>whnf);first|refine Ww hli ?_|(refine A1 ?_;intros)|fail)
     all_goals exact Bm Qb (h _ j2.le)
theorem kn:∀(m:Nat) {n n':Nd} {st:St} {R:At->St->Prop},n.size<=m->n.size<=900000000->R (.ret (.bool (EV n n'))) st->PC 56 [enc n,enc n'] st R:=by
 intro m
 induction m with
 |zero=>intro n n' st R hm;cases n;rw [Nd.size] at hm;omega
 |succ m ih=>
  intro n n' st R hm hz h
  cases n with
  |mk k f t a b l=>
   cases n' with
   |mk k' f' t' a' b' l'=>
    have hks:l.length<=900000000:=by have:l.length<_:=EW (.mk k f t a b l);omega
    rw [EV] at h
    replace h:R (.ret (.bool (decide (k=k')&&(decide (f=f')&&(t==t'&&Ca l l'))))) st:=h
    refine pB Tryz.func56 ?_
    have h4:(decide (k=k')&&(decide (f=f')&&(t==t'&&Ca l l')))=if k=k' then (if f=f' then (if t=t' then Ca l l' else false) else false) else false:=by
     by_cases h1:k=k'<;>by_cases h2:f=f'<;>by_cases h3:t=t'<;>simp [h1,h2,h3]
    rw [h4] at h
    by_cases h1:k=k'
    .by_cases h2:f=f'
     .by_cases h3:t=t'
      .rw [if_pos h1,if_pos h2,if_pos h3] at h
       have U:(Nd.mk k f t a b l).kind=(Nd.mk k' f' t' a' b' l').kind:=h1
       have h2':(Nd.mk k f t a b l).form=(Nd.mk k' f' t' a' b' l').form:=h2
       have h3':(Nd.mk k f t a b l).text=(Nd.mk k' f' t' a' b' l').text:=h3
       by_cases hl:l.length=l'.length
       .have hli:(l.length:Int)=(l'.length:Int):=AC
        repeat' ((conv=>whnf);first|refine Wt U ?_|refine Wt h2' ?_|refine Wt h3' ?_|refine Wt hli ?_|exact B1|(refine A1 ?_;intros)|(refine B2 ?_ ?_ ?_;rotate_left)|fail)
        refine Gg (α:=Nat) (λi=>[(5,.int .i64 (i:Nat))]) [2,3] (λ_=>[]) [0,1] (λ_=>st) (λi=>i<=l.length/\Ca (l.drop i) (l'.drop i)=Ca l l') (λi=>l.length - i) 0 ⟨Nat.zero_le _,rfl⟩ Yl (St.le_refl _) ?_
        rintro i ⟨hi,hs⟩
        by_cases hlt:i<l.length
        .obtain ⟨x,hx⟩:∃x,l[(i:Int).toNat]? =some x:=⟨_,List.getElem?_eq_getElem hlt⟩
         obtain ⟨y,hy⟩:∃y,l'[(i:Int).toNat]? =some y:=⟨_,List.getElem?_eq_getElem (show i<l'.length by omega)⟩
         have hsz:=Cb (n:=.mk k f t a b l) (List.mem_of_getElem? hx)
         rw [Rb (show l[i]? =some x from hx) (show l'[i]? =some y from hy)] at hs
         have hlj:(i:Int)<(l.length:Int):=AC
         cases hxy:EV x y with
         |true=>
          rw [hxy,Bool.true_and] at hs
          have hf2:∀{st:St} {R:At->St->Prop},R (.ret (.bool true)) st->PC 56 [enc x,enc y] st R:=λh=>ih AC AC (by rw [hxy];exact h)
          repeat' ((conv=>whnf);first|refine Wv hlj ?_|refine Wm hx AC ?_|refine Wm hy AC ?_|exact B1|(refine A1 ?_;intros)|(refine B2 ?_ ?_ ?_;rotate_left)|refine hf2 ?_|refine Wq (a:=(i:Int)+1) AC AC ?_|refine Ad 12 [10] [] ?_|fail)
          all_goals conv=>whnf
          all_goals exact ⟨i+1,⟨hlt,hs⟩,Nat.sub_lt_sub_left hlt (Nat.lt_succ_self i),Yl,St.le_refl _⟩
         |false=>
          rw [hxy,Bool.false_and] at hs
          rw [<-hs] at h
          have hf2:∀{st:St} {R:At->St->Prop},R (.ret (.bool false)) st->PC 56 [enc x,enc y] st R:=λh=>ih AC AC (by rw [hxy];exact h)
          repeat' ((conv=>whnf);first|refine Wv hlj ?_|refine Wm hx AC ?_|refine Wm hy AC ?_|exact B1|(refine A1 ?_;intros)|(refine B2 ?_ ?_ ?_;rotate_left)|refine hf2 ?_|refine Ad 12 [10] [] ?_|fail)
          all_goals exact fin h rfl
        .have hlj:¬(i:Int)<(l.length:Int):=AC
         rw [List.drop_of_length_le (show l.length<=i by omega),List.drop_of_length_le (show l'.length<=i by omega)] at hs
         rw [<-hs] at h
         repeat' ((conv=>whnf);first|refine Ww hlj ?_|exact B1|(refine A1 ?_;intros)|(refine B2 ?_ ?_ ?_;rotate_left)|fail)
         all_goals exact fin h rfl
       .have hli:¬(l.length:Int)=(l'.length:Int):=AC
        have hs:Ca l l'=false:=Bool.eq_false_iff.2 λe=>hl (NK e)
        rw [hs] at h
        repeat' ((conv=>whnf);first|refine Wt U ?_|refine Wt h2' ?_|refine Wt h3' ?_|refine Wu hli ?_|exact B1|(refine A1 ?_;intros)|(refine B2 ?_ ?_ ?_;rotate_left)|fail)
        all_goals exact fin h rfl
      .rw [if_pos h1,if_pos h2,if_neg h3] at h
       have U:(Nd.mk k f t a b l).kind=(Nd.mk k' f' t' a' b' l').kind:=h1
       have h2':(Nd.mk k f t a b l).form=(Nd.mk k' f' t' a' b' l').form:=h2
       have h3':¬(Nd.mk k f t a b l).text=(Nd.mk k' f' t' a' b' l').text:=h3
       repeat' ((conv=>whnf);first|refine Wt U ?_|refine Wt h2' ?_|refine Wu h3' ?_|exact B1|(refine A1 ?_;intros)|(refine B2 ?_ ?_ ?_;rotate_left)|fail)
       all_goals exact fin h rfl
     .rw [if_pos h1,if_neg h2] at h
      have U:(Nd.mk k f t a b l).kind=(Nd.mk k' f' t' a' b' l').kind:=h1
      have h2':¬(Nd.mk k f t a b l).form=(Nd.mk k' f' t' a' b' l').form:=h2
      repeat' ((conv=>whnf);first|refine Wt U ?_|refine Wu h2' ?_|exact B1|(refine A1 ?_;intros)|(refine B2 ?_ ?_ ?_;rotate_left)|fail)
      all_goals exact fin h rfl
    .rw [if_neg h1] at h
     have U:¬(Nd.mk k f t a b l).kind=(Nd.mk k' f' t' a' b' l').kind:=h1
     repeat' ((conv=>whnf);first|refine Wu U ?_|exact B1|(refine A1 ?_;intros)|(refine B2 ?_ ?_ ?_;rotate_left)|fail)
     all_goals exact fin h rfl
theorem jD {a b:Nd} (ha:a.size<=900000000) (hb:b.size<=900000000) (ta:C7 a<=100000000) (tb:C7 b<=100000000) (h:∀st',st.le st'->R (.ret (.bool (Dl a b))) st'):PC 30 [enc a,enc b] st R:=by
 refine pB Tryz.func30 ?_
 have p1:∀{st:St} {R:At->St->Prop},(∀st',st.le st'->R (.ret (enc (Av a))) st')->PC 57 [enc a] st R:=λh=>Q8 _ (Nat.le_refl _) ha ta h
 have p2:∀{st:St} {R:At->St->Prop},(∀st',st.le st'->R (.ret (enc (Av b))) st')->PC 57 [enc b] st R:=λh=>Q8 _ (Nat.le_refl _) hb tb h
 have q1:∀{st:St} {R:At->St->Prop},(∀st',st.le st'->R (.ret (enc (Bl (Av a)))) st')->PC 28 [enc (Av a)] st R:=λh=>NF _ (Nat.le_refl _) (by rw [DY];exact ha) h
 have q2:∀{st:St} {R:At->St->Prop},(∀st',st.le st'->R (.ret (enc (Bl (Av b)))) st')->PC 28 [enc (Av b)] st R:=λh=>NF _ (Nat.le_refl _) (by rw [DY];exact hb) h
 repeat' ((conv=>whnf);first|exact B1|(refine A1 ?_;intros)|(refine B2 ?_ ?_ ?_;rotate_left)|(refine CZ ?_ ?_<;>intro _)|refine p1 (λst1 U=>?_)|refine q1 (λst2 hle2=>?_)|refine p2 (λst3 hle3=>?_)|refine q2 (λst4 hle4=>?_)|refine kn _ (Nat.le_refl _) (by rw [M8,DY]<;>exact ha) ?_|refine AM [1,7,2,4,8,10,12,15] [] ?_|fail)
 all_goals (rename_i e;have h:=h _ (St.le_trans U (St.le_trans hle2 (St.le_trans hle3 hle4)));unfold Dl at h;rw [e] at h;exact fin h rfl)
theorem LK {a:Nd} (ha:a.size+C7 a<=1048576) (h:∀st',st.le st'->R (.ret (.bool true)) st'):PC 5 [enc a] st R:=by
 refine pB Tryz.func5 ?_
 have s1:∀{st:St} {R:At->St->Prop},R (.ret (.int .i64 (a.size:Nat))) st->PC 22 [enc a] st R:=λh=>MH _ (Nat.le_refl _) AC h
 by_cases hz:a.size<=2000
 .have g1:¬(2000:Int)<(a.size:Int):=AC
  have k1:∀{st:St} {R:At->St->Prop},(∀st',st.le st'->R (.ret (.str (N5 a))) st')->PC 24 [enc a] st R:=λh=>PY AC AC h
  have k2:∀{st:St} {R:At->St->Prop},(∀st',st.le st'->R (.ret (.str (N5 a))) st')->PC 25 [enc a] st R:=λh=>om AC AC h
  generalize N5 a=X at k1 k2
  repeat' ((conv=>whnf);first|refine Ww g1 ?_|refine Wt (rfl:X=X) ?_|exact B1|(refine A1 ?_;intros)|(refine B2 ?_ ?_ ?_;rotate_left)|refine DU (λst0 U=>?_)|refine s1 ?_|refine k1 (λst1 hle1=>?_)|refine k2 (λst2 hle2=>?_)|refine AM [0,3,5,9,6,10,13,15,17] [] ?_|fail)
  all_goals exact fin (h _ (by repeat (first|assumption|refine St.le_trans ?_ ‹_›))) rfl
 .have g1:(2000:Int)<(a.size:Int):=AC
  repeat' ((conv=>whnf);first|refine Wv g1 ?_|exact B1|(refine A1 ?_;intros)|(refine B2 ?_ ?_ ?_;rotate_left)|refine DU (λst0 U=>?_)|refine s1 ?_|fail)
  all_goals exact fin (h _ (by repeat (first|assumption|refine St.le_trans ?_ ‹_›))) rfl
theorem Px {a b:Nd} (ha:a.size+C7 a<=1048576) (hb:b.size+C7 b<=1048576) (h:∀st',st.le st'->R (.ret (.bool true)) st'):PC 6 [enc a,enc b] st R:=by
 refine pB Tryz.func6 ?_
 have s1:∀{st:St} {R:At->St->Prop},R (.ret (.int .i64 (a.size:Nat))) st->PC 22 [enc a] st R:=λh=>MH _ (Nat.le_refl _) AC h
 have s2:∀{st:St} {R:At->St->Prop},R (.ret (.int .i64 (b.size:Nat))) st->PC 22 [enc b] st R:=λh=>MH _ (Nat.le_refl _) AC h
 by_cases hz:a.size<=2000/\b.size<=2000
 .have g1:¬(2000:Int)<(a.size:Int):=AC
  have g2:¬(2000:Int)<(b.size:Int):=AC
  have k1:∀{st:St} {R:At->St->Prop},(∀st',st.le st'->R (.ret (enc (Bl a))) st')->PC 27 [enc a] st R:=λh=>LJ _ (Nat.le_refl _) AC h
  have k2:∀{st:St} {R:At->St->Prop},(∀st',st.le st'->R (.ret (enc (Bl a))) st')->PC 28 [enc a] st R:=λh=>NF _ (Nat.le_refl _) AC h
  have k3:∀{st:St} {R:At->St->Prop},R (.ret (.bool true)) st->PC 26 [enc (Bl a),enc (Bl a)] st R:=λh=>dR _ (Nat.le_refl _) h
  have k4:∀{st:St} {R:At->St->Prop},(∀st',st.le st'->R (.ret (.bool (Dl a b))) st')->PC 29 [enc a,enc b] st R:=λh=>JZ AC AC AC AC h
  have k5:∀{st:St} {R:At->St->Prop},(∀st',st.le st'->R (.ret (.bool (Dl a b))) st')->PC 30 [enc a,enc b] st R:=λh=>jD AC AC AC AC h
  generalize Bl a=X at k1 k2 k3
  cases hal:Dl a b with
  |true=>
   rw [hal] at k4 k5
   repeat' ((conv=>whnf);first|refine Ww g1 ?_|refine Ww g2 ?_|exact B1|(refine A1 ?_;intros)|(refine B2 ?_ ?_ ?_;rotate_left)|(refine CZ ?_ ?_<;>intro _)|refine DU (λst0 U=>?_)|refine s1 ?_|refine s2 ?_|refine k1 (λst1 hle1=>?_)|refine k2 (λst2 hle2=>?_)|refine k3 ?_|refine k4 (λst4 hle4=>?_)|refine k5 (λst5 hle5=>?_)|refine AM [0,3,5,9,6,10,12,15,17,19,21,25,27,22,28,31,33,35] [] ?_|fail)
   all_goals first|exact fin (h _ (by repeat (first|assumption|refine St.le_trans ?_ ‹_›))) rfl|exact absurd (by assumption:(!false)=false) Do
  |false=>
   rw [hal] at k4 k5
   repeat' ((conv=>whnf);first|refine Ww g1 ?_|refine Ww g2 ?_|exact B1|(refine A1 ?_;intros)|(refine B2 ?_ ?_ ?_;rotate_left)|(refine CZ ?_ ?_<;>intro _)|refine DU (λst0 U=>?_)|refine s1 ?_|refine s2 ?_|refine k1 (λst1 hle1=>?_)|refine k2 (λst2 hle2=>?_)|refine k3 ?_|refine k4 (λst4 hle4=>?_)|refine k5 (λst5 hle5=>?_)|refine AM [0,3,5,9,6,10,12,15,17,19,21,25,27,22,28,31,33,35] [] ?_|fail)
   all_goals first|exact fin (h _ (by repeat (first|assumption|refine St.le_trans ?_ ‹_›))) rfl|exact absurd (by assumption:(!false)=false) Do
 .by_cases hz1:a.size<=2000
  .have g1:¬(2000:Int)<(a.size:Int):=AC
   have g2:(2000:Int)<(b.size:Int):=AC
   repeat' ((conv=>whnf);first|refine Ww g1 ?_|refine Wv g2 ?_|exact B1|(refine A1 ?_;intros)|(refine B2 ?_ ?_ ?_;rotate_left)|(refine CZ ?_ ?_<;>intro _)|refine DU (λst0 U=>?_)|refine s1 ?_|refine s2 ?_|fail)
   all_goals exact fin (h _ (by repeat (first|assumption|refine St.le_trans ?_ ‹_›))) rfl
  .have g1:(2000:Int)<(a.size:Int):=AC
   repeat' ((conv=>whnf);first|refine Wv g1 ?_|exact B1|(refine A1 ?_;intros)|(refine B2 ?_ ?_ ?_;rotate_left)|(refine CZ ?_ ?_<;>intro _)|refine DU (λst0 U=>?_)|refine s1 ?_|fail)
   all_goals exact fin (h _ (by repeat (first|assumption|refine St.le_trans ?_ ‹_›))) rfl
end
section
variable {H:Type} {P:Program}
theorem Yd:Tryz.prog.cellsOf 25=6:=EQ
end
section
variable {H:Type}
theorem Vf:∀l:List Nd,(l.map λn=>n.size+C7 n).sum=Bn l+Gr l
 |[]=>rfl
 |n::r=>by rw [List.map_cons,List.sum_cons,Vf r,Bn,Gr];omega
theorem HW:∀(n:Nat) (d:DataW H) (vs:List V),dec Tryz.prog n 25 d=some vs->∃nd:Nd,vs=AB nd/\nd.size+C7 nd<=Rows.uptoBulk d:=by
 intro n
 induction n using Nat.strongRecOn with
 |_ n ih=>
  intro d vs h
  obtain ⟨m,ds,us,rfl,hl,hm,rfl,hb⟩:=Yi Tryz.underlying25 h
  match ds,hl with
  |[d0,d1,d2,d3,d4,d5],_=>
   simp only [List.zip_cons_cons,List.zip_nil_right] at hm
   obtain ⟨u0,r0,h0,hm0,rfl⟩:=CM hm
   obtain ⟨u1,r1,h1,hm1,rfl⟩:=CM hm0
   obtain ⟨u2,r2,h2,hm2,rfl⟩:=CM hm1
   obtain ⟨u3,r3,h3,hm3,rfl⟩:=CM hm2
   obtain ⟨u4,r4,h4,hm4,rfl⟩:=CM hm3
   obtain ⟨u5,r5,h5,hm5,rfl⟩:=CM hm4
   cases hm5
   obtain ⟨k,rfl⟩:=OS Tryz.underlying3 h0
   obtain ⟨f,rfl⟩:=OS Tryz.underlying3 h1
   obtain ⟨t,rfl,ht⟩:=mg Tryz.underlying9 h2
   obtain ⟨l,rfl⟩:=OS Tryz.underlying3 h3
   obtain ⟨c,rfl⟩:=OS Tryz.underlying3 h4
   obtain ⟨m',es,U,rfl,rfl,hes,hb'⟩:=ct Tryz.underlying23 h5
   obtain ⟨ks,rfl,hks⟩:=Vj (f:=AB) (w:=λn=>n.size+C7 n) (λd vs=>ih m' AC d vs) hes
   refine ⟨.mk k f t l c ks,?_,?_⟩
   .simp only [AB,Nd.kind,Nd.form,Nd.text,Nd.line,Nd.Cp,Nd.kids,BI,Yd];rfl
   .rw [Vf] at hks
    rw [Nd.size,C7]
    simp only [Rows.uptoBulkAll] at hb
    have ht2:t.length+1=Rows.uptoBulk d2:=ht
    have hb5:Rows.uptoBulkAll U+1<=Rows.uptoBulk d5:=hb'
    omega
end
end Go.Proofs.Z
