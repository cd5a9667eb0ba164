/-
  Parts of a proof: lemmas that the last text uses.
-/
import Derived.Test.YtkidoddkbhchkaaGreatDoorS3
set_option linter.unusedVariables false
set_option linter.unusedSimpArgs false
namespace Go.Aw
open Go
theorem XB {st:St} {b c:Nat} {cs:List V} (h:b≠c):(st.setBox b cs).box c=st.box c:=by simp [St.setBox,Ne.symm h]
theorem QX {st:St} {b c:Nat} {cs:List V} (h:(st.setBox b cs).fresh c):b≠c∧st.fresh c:=by
 by_cases e:b=c
 ·subst e
  have:=h.1
  rw [St.Xv] at this
  cases this
 ·refine ⟨e,?_,h.2⟩
  have:=h.1
  rw [XB e] at this
  exact this
theorem XdK {st:St} {K:Nat→Prop} (h:∀b,st.fresh b→K b):∀b,st.fresh b→K b:=h
end Go.Aw
namespace Go.Proofs.YtkidoddkbhchkaaGreatDoor
open Go Go.Aw
section
variable {st:St} {R:Res→St→Prop}
attribute [local irreducible] Go.Aw.appendTo
theorem XfY {b1 b2 b3:Nat} {RS:St→Prop} (h:RS st):DCalls Tryz.prog 281 [.ptr b1 0,.ptr b2 0,.ptr b3 0] none st RS:=by
 refine ZF Xb [] Tryz.func281 rfl rfl rfl rfl rfl rfl rfl rfl (fun env0 he=>?_)
 subst he
 conv=>whnf
 refine Xn (Xl Xb ?_)
 repeat' ((conv=>whnf);first|(with_reducible first|exact Wa|exact Wb|exact Wc|refine Wd (by kernel_rfl) ?_|refine We ?_ ?_ ?_|refine W8 (by decide +kernel) ?_ ?_ ?_|refine W0 (by decide +kernel) ?_ ?_ ?_|refine W9 ?_ ?_ ?_|refine Yc0 ?_|(refine Yc1 ?_ ?_<;>intro _)|refine Wq (by omega) (by omega) ?_)|with_reducible refine WF ?_)
 all_goals exact h
theorem XaJ {b1 b2 b3 b4 p q:Nat} {s:List UInt8} {tx:Bool} {o:List Int} {w1 w2:Own} {g:List (Nat×Nat)} {e k0 e0:Int} {RS:St→Prop} (h1:st.box b1=some [.ptr b4 0]) (h4:st.box b4=some (qC s q tx o w1 g w2)) (h2:st.box b2=some [.int .i64 k0]) (h3:st.box b3=some [.int .i64 e0])
 (d2:b4≠b2) (d3:b4≠b3) (d5:b2≠b3) (h:RS (((st.setBox b4 (qC s p tx o w1 g w2)).setBox b2 [.int .i64 0]).setBox b3 [.int .i64 e])):DCalls Tryz.prog 281 [.ptr b1 0,.ptr b2 0,.ptr b3 0] (some (qfault p e)) st RS:=by
 refine ZF Xb [] Tryz.func281 rfl rfl rfl rfl rfl rfl rfl rfl (fun env0 he=>?_)
 subst he
 conv=>whnf
 refine Xn (Xl Xb ?_)
 repeat' ((conv=>whnf);first|(with_reducible first|exact Wa|exact Wb|exact Wc|refine Wd (by kernel_rfl) ?_|refine We ?_ ?_ ?_|refine W8 (by decide +kernel) ?_ ?_ ?_|refine W0 (by decide +kernel) ?_ ?_ ?_|refine W9 ?_ ?_ ?_|refine Yc0 ?_|(refine Yc1 ?_ ?_<;>intro _)|refine Wq (by omega) (by omega) ?_)|with_reducible refine WF ?_)
 refine Xn (Xl Xb ?_)
 repeat' ((conv=>whnf);first|(with_reducible first|exact Wa|exact Wb|exact Wc|refine Wd (by kernel_rfl) ?_|refine We ?_ ?_ ?_|refine W8 (by decide +kernel) ?_ ?_ ?_|refine W0 (by decide +kernel) ?_ ?_ ?_|refine W9 ?_ ?_ ?_|refine Yc0 ?_|(refine Yc1 ?_ ?_<;>intro _)|refine Wq (by omega) (by omega) ?_)|with_reducible refine WF ?_)
 refine Xn (Xl Xb ?_)
 repeat' ((conv=>whnf);first|(with_reducible first|exact Wa|exact Wb|exact Wc|refine Wd (by kernel_rfl) ?_|refine We ?_ ?_ ?_|refine W8 (by decide +kernel) ?_ ?_ ?_|refine W0 (by decide +kernel) ?_ ?_ ?_|refine W9 ?_ ?_ ?_|refine Yc0 ?_|(refine Yc1 ?_ ?_<;>intro _)|refine Wq (by omega) (by omega) ?_)|with_reducible refine WF ?_)
 have k2:∀cs,(st.setBox b4 cs).box b2=some [.int .i64 k0]:=fun cs=>(XB d2).trans h2
 have k3:∀cs cs',((st.setBox b4 cs).setBox b2 cs').box b3=some [.int .i64 e0]:=fun cs cs'=>(XB d5).trans ((XB d3).trans h3)
 refine Xl Xb ?_
 repeat' ((conv=>whnf);first|refine Xk [(0,true),(1,true),(2,true),(3,true),(4,true),(5,true),(6,true),(7,false),(8,false),(9,false)] [] (by decide +kernel) ?_|(with_reducible first|exact Wa|exact Wb|exact Wc|refine Wd (by kernel_rfl) ?_|refine We ?_ ?_ ?_|refine W8 (by decide +kernel) ?_ ?_ ?_|refine W0 (by decide +kernel) ?_ ?_ ?_|refine W9 ?_ ?_ ?_|refine Yc0 ?_|(refine Yc1 ?_ ?_<;>intro _)|refine Wq (by omega) (by omega) ?_)|refine Xe h1 ?_|refine Xe h4 ?_|refine Xe (k2 _) ?_|refine Xe (k3 _ _) ?_|with_reducible refine WF ?_)
 all_goals exact h
theorem lit_c {st0:St} {b p:Nat} {s:List UInt8} {tx:Bool} {w1 w2:Own} (hl:s.length≤100000000) (hq:hdF (s.drop p)=34∨hdF (s.drop p)=39) (hb0:st0.box b=none) (hb:st.box b=some (qC s p tx [] w1 [] w2)) (hr:Rows2 st0 st w1 0 w2 0)
 (h0:∀(q:Nat) e tx',quoF s p=(0,(q:Int),e)→∀st',QB st0 st' b s tx'→R (.pan (qfault q e)) st')
 (h:∀k (q:Nat),quoF s p=(k,(q:Int),0)→∀tx' o u1 g u2 st',Rows2 st0 st' u1 (List.length o) u2 (2*List.length g)→st'.box b=some (qC s q tx' o u1 g u2)→R (.ret (.int .i64 k)) st'):PC 282 [.ptr b 0] st R:=by
 rcases hq with hq|hq
 ·refine Xj2 hl hq hb0 hb hr (fun k e hT st' hQ=>h0 _ e true ?_ st' hQ) (fun n hT u1 u2 st' hR hB=>h 14 _ ?_ _ _ _ _ _ st' hR hB)
  ·unfold quoF;rw [if_pos hq,hT]
  ·unfold quoF;rw [if_pos hq,hT]
 ·refine Xj1 hl hq hb0 hb hr (fun k e hT st' hQ=>h0 _ e false ?_ st' hQ) (fun n hT o' u1 u2 st' hR hB=>h 13 _ ?_ _ _ _ _ _ st' hR hB)
  ·unfold quoF;rw [if_neg (by omega),if_pos hq,hT]
  ·unfold quoF;rw [if_neg (by omega),if_pos hq,hT]
noncomputable def readOps:List Oper:=match Tryz.f229.body with|some (.seq _ (.seq _ (.seq _ (.seq _ (.seq (.region _ ops _) _)))))=>ops.toList|_=>[]
noncomputable def readE (b1 b2 b3 b4:Nat) (K:Int) (bs:List Bool):Env:=
 {tmps:=putT [(4,.ptr b1 0),(5,.ptr b2 0),(6,.ptr b3 0)] readOps [.ptr b4 0,.ptr b4 0,.int .i64 K,.junk,.junk,.junk] bs,boxes:=[],nxt:=1,sz:=39,gl:=[4,5,6,10]}
def readS (b1 b2 b3 b4:Nat) (K:Int) (m:St) (bs:List Bool):St:=
 match bs[3]?,bs[4]?,bs[5]? with
 |_,_,some true=>((m.setBox b1 [.ptr b4 0]).setBox b2 [.int .i64 K]).setBox b3 [.int .i64 0]
 |_,some true,_=>(m.setBox b1 [.ptr b4 0]).setBox b2 [.int .i64 K]
 |some true,_,_=>m.setBox b1 [.ptr b4 0]
 |_,_,_=>m
def readJ (s0 A:St) (b4:Nat) (s:List UInt8) (Q E0:Int) (x:LS×Bool) (bs:List Bool):Prop:=match bs[2]? with
 |some true=>Rows2 s0 x.1.m x.1.w1 x.1.o.length x.1.w2 (2*x.1.g.length)∧x.1.m.box b4=some (qC s x.1.q x.2 x.1.o x.1.w1 x.1.g x.1.w2)∧(x.1.q:Int)=Q∧E0=0
 |_=>x.1.m=A
def readPL:List (List Bool×Nat):=[([false,false,false,false,false,false],0),([false,false,false,false,false,false],1),([true,false,false,false,false,false],1),([false,true,false,false,false,false],0),([false,true,false,false,false,false],2),([true,true,false,false,false,false],2),([false,true,true,false,false,false],0),([true,true,true,false,false,false],3),([true,true,true,true,false,false],4),([true,true,true,true,true,false],5)]
noncomputable def readRest:Code:=match Tryz.f229.body with|some (.seq _ (.seq _ (.seq _ (.seq _ r))))=>r|_=>.skip
set_option maxHeartbeats 4000000 in
theorem Xkf {s0:St} {s:List UInt8} {pos b1 b2 b3 b4:Nat} (hl:s.length≤100000000) (hq:hdF (s.drop pos)=34∨hdF (s.drop pos)=39) (hs0:s0.box b4=none) (hsl:st.le s0) (n12:b1≠b2) (n13:b1≠b3) (n14:b1≠b4) (n23:b2≠b3) (n24:b2≠b4) (n34:b3≠b4) (k1:st.box b1=none) (k2:st.box b2=none) (k3:st.box b3=none) (k4:st.box b4=none)
 (m1:s0.box b1=some [.ptr b4 0]) (m2:s0.box b2=some [.int .i64 0]) (m3:s0.box b3=some [.int .i64 0])
 (h:∀b4 (q:Nat) tx o w1 g w2 st',st.le st'→st'.box b4=some (qC s q tx o w1 g w2)→(q:Int)=(quoF s pos).2.1→R (.ret (.tup [.ptr b4 0,.int .i64 (quoF s pos).1,.int .i64 (quoF s pos).2.2])) st'):
 AW Tryz.prog readRest (leaveQ Tryz.prog tys 281 [.ptr b1 0,.ptr b2 0,.ptr b3 0] Tryz.f229 (Go.Aw.Ends R)) (readE b1 b2 b3 b4 (quoF s pos).1 (List.replicate 6 false)) (s0.setBox b4 (qC s pos false [] .full [] .full)):=by
 have a1:∀C,(s0.setBox b4 C).box b1=some [.ptr b4 0]:=fun C=>(XB n14.symm).trans m1
 have hr0:Rows2 s0 (s0.setBox b4 (qC s pos false [] .full [] .full)) .full 0 .full 0:=⟨trivial,trivial,trivial,trivial,trivial,St.Xg (St.le_refl _) hs0 _⟩
 refine Xn (aw_anyX Xb (Qg _) (fun _ bs=>readE b1 b2 b3 b4 (quoF s pos).1 bs) (fun x bs=>readS b1 b2 b3 b4 (quoF s pos).1 x.1.m bs) (fun x bs=>readJ s0 (s0.setBox b4 (qC s pos false [] .full [] .full)) b4 s (quoF s pos).2.1 (quoF s pos).2.2 x bs) (⟨pos,[],[],.full,.full,s0.setBox b4 (qC s pos false [] .full [] .full)⟩,false) readPL (by decide +kernel) rfl Yl (St.le_refl _) ?_ ?_)
 ·unfold readPL
  repeat' (first|refine List.forall_mem_cons.2 ⟨?_,?_⟩|exact List.forall_mem_nil _)
  all_goals rintro ⟨⟨q,o,g,w1,w2,m⟩,tx⟩ hj
  all_goals dsimp only [readJ,List.getElem?_cons_zero,List.getElem?_cons_succ] at hj
  all_goals try subst hj
  ·skip
   repeat' ((conv=>whnf);first|(with_reducible first|exact Wa|exact Wb|exact Wc|refine Wd (by kernel_rfl) ?_|refine We ?_ ?_ ?_|refine W8 (by decide +kernel) ?_ ?_ ?_|refine W0 (by decide +kernel) ?_ ?_ ?_|refine W9 ?_ ?_ ?_|refine Yc0 ?_|(refine Yc1 ?_ ?_<;>intro _)|refine Wq (by omega) (by omega) ?_)|refine Xe (a1 _) ?_|with_reducible refine WF ?_)
   all_goals conv=>whnf
   all_goals exact ⟨(⟨q,o,g,w1,w2,_⟩,tx),rfl,Yl,St.le_refl _⟩
  ·skip
   repeat' ((conv=>whnf);first|(with_reducible first|exact Wa|exact Wb|exact Wc|refine Wd (by kernel_rfl) ?_|refine We ?_ ?_ ?_|refine W8 (by decide +kernel) ?_ ?_ ?_|refine W0 (by decide +kernel) ?_ ?_ ?_|refine W9 ?_ ?_ ?_|refine Yc0 ?_|(refine Yc1 ?_ ?_<;>intro _)|refine Wq (by omega) (by omega) ?_)|refine Xe (a1 _) ?_|with_reducible refine WF ?_)
   all_goals conv=>whnf
   all_goals exact ⟨(⟨q,o,g,w1,w2,_⟩,tx),rfl,Yl,St.le_refl _⟩
  ·skip
   repeat' ((conv=>whnf);first|(with_reducible first|exact Wa|exact Wb|exact Wc|refine Wd (by kernel_rfl) ?_|refine We ?_ ?_ ?_|refine W8 (by decide +kernel) ?_ ?_ ?_|refine W0 (by decide +kernel) ?_ ?_ ?_|refine W9 ?_ ?_ ?_|refine Yc0 ?_|(refine Yc1 ?_ ?_<;>intro _)|refine Wq (by omega) (by omega) ?_)|refine Xe (a1 _) ?_|with_reducible refine WF ?_)
   all_goals conv=>whnf
   all_goals exact ⟨(⟨q,o,g,w1,w2,_⟩,tx),rfl,Yl,St.le_refl _⟩
  ·skip
   repeat' ((conv=>whnf);first|(with_reducible first|exact Wa|exact Wb|exact Wc|refine Wd (by kernel_rfl) ?_|refine We ?_ ?_ ?_|refine W8 (by decide +kernel) ?_ ?_ ?_|refine W0 (by decide +kernel) ?_ ?_ ?_|refine W9 ?_ ?_ ?_|refine Yc0 ?_|(refine Yc1 ?_ ?_<;>intro _)|refine Wq (by omega) (by omega) ?_)|refine Xe (a1 _) ?_|with_reducible refine WF ?_)
   all_goals conv=>whnf
   all_goals exact ⟨(⟨q,o,g,w1,w2,_⟩,tx),rfl,Yl,St.le_refl _⟩
  ·skip
   repeat' ((conv=>whnf);first|(with_reducible first|exact Wa|exact Wb|exact Wc|refine Wd (by kernel_rfl) ?_|refine We ?_ ?_ ?_|refine W8 (by decide +kernel) ?_ ?_ ?_|refine W0 (by decide +kernel) ?_ ?_ ?_|refine W9 ?_ ?_ ?_|refine Yc0 ?_|(refine Yc1 ?_ ?_<;>intro _)|refine Wq (by omega) (by omega) ?_)|refine lit_c hl hq hs0 (St.Xv ..) hr0 (fun q' e' tx' hz st' hQ=>?_) (fun k q' hz tx' o' u1 g' u2 st' hR hB=>?_)|refine Xe (a1 _) ?_|with_reducible refine WF ?_)
   ·obtain ⟨q1,o1,u1,g1,u2,hB,hR⟩:=hQ
    conv=>whnf
    refine XaJ (hR.le.1 _ _ m1) hB (hR.le.1 _ _ m2) (hR.le.1 _ _ m3) n24.symm n34.symm n23 ?_
    have c1:(((st'.setBox b4 (qC s q' tx' o1 u1 g1 u2)).setBox b2 [.int .i64 0]).setBox b3 [.int .i64 e']).box b1=some [.ptr b4 0]:=(XB n13.symm).trans ((XB n12.symm).trans ((XB n14.symm).trans (hR.le.1 _ _ m1)))
    have c2:(((st'.setBox b4 (qC s q' tx' o1 u1 g1 u2)).setBox b2 [.int .i64 0]).setBox b3 [.int .i64 e']).box b2=some [.int .i64 0]:=(XB n23.symm).trans (St.Xv _ _ _)
    have c3:(((st'.setBox b4 (qC s q' tx' o1 u1 g1 u2)).setBox b2 [.int .i64 0]).setBox b3 [.int .i64 e']).box b3=some [.int .i64 e']:=St.Xv _ _ _
    have c4:(((st'.setBox b4 (qC s q' tx' o1 u1 g1 u2)).setBox b2 [.int .i64 0]).setBox b3 [.int .i64 e']).box b4=some (qC s q' tx' o1 u1 g1 u2):=(XB n34).trans ((XB n24).trans (St.Xv _ _ _))
    have c5:(quoF s pos).1=0:=by rw [hz]
    have c6:(quoF s pos).2.1=q':=by rw [hz]
    have c7:(quoF s pos).2.2=e':=by rw [hz]
    have gg:=fun le=>h b4 q' tx' o1 u1 g1 u2 _ le c4 c6.symm
    rw [c5,c7] at gg
    clear h hz c4 c5 c6 c7
    repeat' ((conv=>whnf);first|(with_reducible first|exact Wa|exact Wb|exact Wc|refine Wd (by kernel_rfl) ?_|refine We ?_ ?_ ?_|refine W8 (by decide +kernel) ?_ ?_ ?_|refine W0 (by decide +kernel) ?_ ?_ ?_|refine W9 ?_ ?_ ?_|refine Yc0 ?_|(refine Yc1 ?_ ?_<;>intro _)|refine Wq (by omega) (by omega) ?_)|refine Xe c1 ?_|refine Xe c2 ?_|refine Xe c3 ?_|with_reducible refine WF ?_)
    exact fin (gg (St.Xg (St.Xg (St.Xg (St.le_trans hsl hR.le) k4 _) k2 _) k3 _)) rfl
   ·have hz1:(quoF s pos).1=k:=by rw [hz]
    have hz2:(quoF s pos).2.1=q':=by rw [hz]
    have hz3:(quoF s pos).2.2=0:=by rw [hz]
    conv=>whnf
    rw [hz1,hz2]
    exact ⟨(⟨q',o',g',u1,u2,st'⟩,tx'),⟨hR,hB,rfl,hz3⟩,Yl,St.le_refl _⟩
  ·skip
   repeat' ((conv=>whnf);first|(with_reducible first|exact Wa|exact Wb|exact Wc|refine Wd (by kernel_rfl) ?_|refine We ?_ ?_ ?_|refine W8 (by decide +kernel) ?_ ?_ ?_|refine W0 (by decide +kernel) ?_ ?_ ?_|refine W9 ?_ ?_ ?_|refine Yc0 ?_|(refine Yc1 ?_ ?_<;>intro _)|refine Wq (by omega) (by omega) ?_)|refine lit_c hl hq hs0 (St.Xv ..) hr0 (fun q' e' tx' hz st' hQ=>?_) (fun k q' hz tx' o' u1 g' u2 st' hR hB=>?_)|refine Xe (a1 _) ?_|with_reducible refine WF ?_)
   ·obtain ⟨q1,o1,u1,g1,u2,hB,hR⟩:=hQ
    conv=>whnf
    refine XaJ (hR.le.1 _ _ m1) hB (hR.le.1 _ _ m2) (hR.le.1 _ _ m3) n24.symm n34.symm n23 ?_
    have c1:(((st'.setBox b4 (qC s q' tx' o1 u1 g1 u2)).setBox b2 [.int .i64 0]).setBox b3 [.int .i64 e']).box b1=some [.ptr b4 0]:=(XB n13.symm).trans ((XB n12.symm).trans ((XB n14.symm).trans (hR.le.1 _ _ m1)))
    have c2:(((st'.setBox b4 (qC s q' tx' o1 u1 g1 u2)).setBox b2 [.int .i64 0]).setBox b3 [.int .i64 e']).box b2=some [.int .i64 0]:=(XB n23.symm).trans (St.Xv _ _ _)
    have c3:(((st'.setBox b4 (qC s q' tx' o1 u1 g1 u2)).setBox b2 [.int .i64 0]).setBox b3 [.int .i64 e']).box b3=some [.int .i64 e']:=St.Xv _ _ _
    have c4:(((st'.setBox b4 (qC s q' tx' o1 u1 g1 u2)).setBox b2 [.int .i64 0]).setBox b3 [.int .i64 e']).box b4=some (qC s q' tx' o1 u1 g1 u2):=(XB n34).trans ((XB n24).trans (St.Xv _ _ _))
    have c5:(quoF s pos).1=0:=by rw [hz]
    have c6:(quoF s pos).2.1=q':=by rw [hz]
    have c7:(quoF s pos).2.2=e':=by rw [hz]
    have gg:=fun le=>h b4 q' tx' o1 u1 g1 u2 _ le c4 c6.symm
    rw [c5,c7] at gg
    clear h hz c4 c5 c6 c7
    repeat' ((conv=>whnf);first|(with_reducible first|exact Wa|exact Wb|exact Wc|refine Wd (by kernel_rfl) ?_|refine We ?_ ?_ ?_|refine W8 (by decide +kernel) ?_ ?_ ?_|refine W0 (by decide +kernel) ?_ ?_ ?_|refine W9 ?_ ?_ ?_|refine Yc0 ?_|(refine Yc1 ?_ ?_<;>intro _)|refine Wq (by omega) (by omega) ?_)|refine Xe c1 ?_|refine Xe c2 ?_|refine Xe c3 ?_|with_reducible refine WF ?_)
    exact fin (gg (St.Xg (St.Xg (St.Xg (St.le_trans hsl hR.le) k4 _) k2 _) k3 _)) rfl
   ·have hz1:(quoF s pos).1=k:=by rw [hz]
    have hz2:(quoF s pos).2.1=q':=by rw [hz]
    have hz3:(quoF s pos).2.2=0:=by rw [hz]
    conv=>whnf
    rw [hz1,hz2]
    exact ⟨(⟨q',o',g',u1,u2,st'⟩,tx'),⟨hR,hB,rfl,hz3⟩,Yl,St.le_refl _⟩
  ·have b1':m.box b1=some [.ptr b4 0]:=hj.1.le.1 _ _ m1
   repeat' ((conv=>whnf);first|(with_reducible first|exact Wa|exact Wb|exact Wc|refine Wd (by kernel_rfl) ?_|refine We ?_ ?_ ?_|refine W8 (by decide +kernel) ?_ ?_ ?_|refine W0 (by decide +kernel) ?_ ?_ ?_|refine W9 ?_ ?_ ?_|refine Yc0 ?_|(refine Yc1 ?_ ?_<;>intro _)|refine Wq (by omega) (by omega) ?_)|refine Xe b1' ?_|with_reducible refine WF ?_)
   all_goals conv=>whnf
   all_goals exact ⟨(⟨q,o,g,w1,w2,m⟩,tx),hj,Yl,St.le_refl _⟩
  ·have b1':m.box b1=some [.ptr b4 0]:=hj.1.le.1 _ _ m1
   repeat' ((conv=>whnf);first|(with_reducible first|exact Wa|exact Wb|exact Wc|refine Wd (by kernel_rfl) ?_|refine We ?_ ?_ ?_|refine W8 (by decide +kernel) ?_ ?_ ?_|refine W0 (by decide +kernel) ?_ ?_ ?_|refine W9 ?_ ?_ ?_|refine Yc0 ?_|(refine Yc1 ?_ ?_<;>intro _)|refine Wq (by omega) (by omega) ?_)|refine Xe b1' ?_|with_reducible refine WF ?_)
   all_goals conv=>whnf
   all_goals exact ⟨(⟨q,o,g,w1,w2,m⟩,tx),hj,Yl,St.le_refl _⟩
  ·have b2':(m.setBox b1 [.ptr b4 0]).box b2=some [.int .i64 0]:=(XB n12).trans (hj.1.le.1 _ _ m2)
   repeat' ((conv=>whnf);first|(with_reducible first|exact Wa|exact Wb|exact Wc|refine Wd (by kernel_rfl) ?_|refine We ?_ ?_ ?_|refine W8 (by decide +kernel) ?_ ?_ ?_|refine W0 (by decide +kernel) ?_ ?_ ?_|refine W9 ?_ ?_ ?_|refine Yc0 ?_|(refine Yc1 ?_ ?_<;>intro _)|refine Wq (by omega) (by omega) ?_)|refine Xe b2' ?_|with_reducible refine WF ?_)
   all_goals conv=>whnf
   all_goals exact ⟨(⟨q,o,g,w1,w2,m⟩,tx),hj,Yl,St.le_refl _⟩
  ·have b3':((m.setBox b1 [.ptr b4 0]).setBox b2 [.int .i64 (quoF s pos).1]).box b3=some [.int .i64 0]:=(XB n23).trans ((XB n13).trans (hj.1.le.1 _ _ m3))
   repeat' ((conv=>whnf);first|(with_reducible first|exact Wa|exact Wb|exact Wc|refine Wd (by kernel_rfl) ?_|refine We ?_ ?_ ?_|refine W8 (by decide +kernel) ?_ ?_ ?_|refine W0 (by decide +kernel) ?_ ?_ ?_|refine W9 ?_ ?_ ?_|refine Yc0 ?_|(refine Yc1 ?_ ?_<;>intro _)|refine Wq (by omega) (by omega) ?_)|refine Xe b3' ?_|with_reducible refine WF ?_)
   all_goals conv=>whnf
   all_goals exact ⟨(⟨q,o,g,w1,w2,m⟩,tx),hj,Yl,St.le_refl _⟩
 ·rintro ⟨⟨q,o,g,w1,w2,m⟩,tx⟩ ⟨j1,j2,j3,j0⟩
  dsimp only at j1 j2 j3 j0
  have c1:(((m.setBox b1 [.ptr b4 0]).setBox b2 [.int .i64 (quoF s pos).1]).setBox b3 [.int .i64 0]).box b1=some [.ptr b4 0]:=(XB n13.symm).trans ((XB n12.symm).trans (St.Xv _ _ _))
  have c2:(((m.setBox b1 [.ptr b4 0]).setBox b2 [.int .i64 (quoF s pos).1]).setBox b3 [.int .i64 0]).box b2=some [.int .i64 (quoF s pos).1]:=(XB n23.symm).trans (St.Xv _ _ _)
  have c3:(((m.setBox b1 [.ptr b4 0]).setBox b2 [.int .i64 (quoF s pos).1]).setBox b3 [.int .i64 0]).box b3=some [.int .i64 0]:=St.Xv _ _ _
  have c4:(((m.setBox b1 [.ptr b4 0]).setBox b2 [.int .i64 (quoF s pos).1]).setBox b3 [.int .i64 0]).box b4=some (qC s q tx o w1 g w2):=(XB n34).trans ((XB n24).trans ((XB n14).trans j2))
  have gg:=fun le=>h b4 q tx o w1 g w2 _ le c4 j3
  rw [j0] at gg
  clear h
  show AW _ _ _ _ _
  refine Xl Xb (XfY ?_)
  repeat' ((conv=>whnf);first|(with_reducible first|exact Wa|exact Wb|exact Wc|refine Wd (by kernel_rfl) ?_|refine We ?_ ?_ ?_|refine W8 (by decide +kernel) ?_ ?_ ?_|refine W0 (by decide +kernel) ?_ ?_ ?_|refine W9 ?_ ?_ ?_|refine Yc0 ?_|(refine Yc1 ?_ ?_<;>intro _)|refine Wq (by omega) (by omega) ?_)|refine Xe c1 ?_|refine Xe c2 ?_|refine Xe c3 ?_|with_reducible refine WF ?_)
  exact fin (gg (St.Xg (St.Xg (St.Xg (St.le_trans hsl j1.le) k1 _) k2 _) k3 _)) rfl
set_option maxHeartbeats 4000000 in
theorem read_c {s:List UInt8} {pos:Nat} (hl:s.length≤100000000) (hp:pos<s.length)
 (h:∀b4 (q:Nat) tx o w1 g w2 st',st.le st'→st'.box b4=some (qC s q tx o w1 g w2)→(q:Int)=(quoF s pos).2.1→R (.ret (.tup [.ptr b4 0,.int .i64 (quoF s pos).1,.int .i64 (quoF s pos).2.2])) st'):PC 229 [.str s,.int .i64 pos] st R:=by
 obtain ⟨e,he⟩:∃e,s[pos]? =some e:=⟨s[pos],List.getElem?_eq_getElem hp⟩
 have he':s[(pos:Int).toNat]? =some e:=he
 have hv:=QN he
 refine PCalls.ends (XcW Xb [4,5,6,10] Tryz.func229 rfl (by decide) rfl rfl rfl rfl rfl rfl ⟨_,Tryz.func281,rfl,by decide⟩ rfl ?_)
 refine Xl Xb ?_
 repeat' ((conv=>whnf);first|(with_reducible first|exact Wa|exact Wb|exact Wc|refine Wd (by kernel_rfl) ?_|refine We ?_ ?_ ?_|refine W8 (by decide +kernel) ?_ ?_ ?_|refine W0 (by decide +kernel) ?_ ?_ ?_|refine W9 ?_ ?_ ?_|refine Yc0 ?_|(refine Yc1 ?_ ?_<;>intro _)|refine Wl (fun _=>?_)|refine Wz (fun _=>?_)|refine WA (fun _=>?_)|refine WJ (fun _=>?_)|refine WL (by assumption) (by omega) ?_|refine WM (by omega) (by omega) (fun _ _=>?_))|refine XdK (fun b3 f3=>?_)|with_reducible refine WF ?_)
 rename_i b1 f1 b2 f2
 obtain ⟨n12,f2a⟩:=QX f2
 obtain ⟨n23,f3a⟩:=QX f3
 obtain ⟨n13,f3b⟩:=QX f3a
 refine Xl Xb ?_
 have kk:∀b4 cs,((((st.setBox b1 [V.nilp]).setBox b2 [V.int .i64 0]).setBox b3 [V.int .i64 0]).fresh b4)→((((st.setBox b1 [V.nilp]).setBox b2 [V.int .i64 0]).setBox b3 [V.int .i64 0]).setBox b4 cs).box b1=some [V.nilp]:=fun b4 cs f4=>by
  obtain ⟨m3,f4a⟩:=QX f4
  obtain ⟨m2,f4b⟩:=QX f4a
  obtain ⟨m1,f4c⟩:=QX f4b
  simp [St.setBox,m1,n12,n13]
 repeat' ((conv=>whnf);first|(with_reducible first|exact Wa|exact Wb|exact Wc|refine Wd (by kernel_rfl) ?_|refine We ?_ ?_ ?_|refine W8 (by decide +kernel) ?_ ?_ ?_|refine W0 (by decide +kernel) ?_ ?_ ?_|refine W9 ?_ ?_ ?_|refine Yc0 ?_|(refine Yc1 ?_ ?_<;>intro _)|refine Wl (fun _=>?_)|refine Wz (fun _=>?_)|refine WA (fun _=>?_)|refine WJ (fun _=>?_)|refine WL (by assumption) (by omega) ?_|refine WM (by omega) (by omega) (fun _ _=>?_))|refine XdK (fun b4 f4=>?_)|refine Xe (kk _ _ f4) ?_|with_reducible refine WF ?_)
 obtain ⟨n34,f4a⟩:=QX f4
 obtain ⟨n24,f4b⟩:=QX f4a
 obtain ⟨n14,f4c⟩:=QX f4b
 obtain ⟨s0,hs0,hsl,m1,m2,m3,hst⟩:∃s0:St,s0.box b4=none∧st.le s0∧s0.box b1=some [.ptr b4 0]∧s0.box b2=some [.int .i64 0]∧s0.box b3=some [.int .i64 0]∧
  s0.setBox b4 (qC s pos false [] .full [] .full)=(((((st.setBox b1 [V.nilp]).setBox b2 [V.int .i64 0]).setBox b3 [V.int .i64 0]).setBox b4 (qC s pos false [] .full [] .full)).setBox b1 [.ptr b4 0]):=by
  refine ⟨((st.setBox b1 [.ptr b4 0]).setBox b2 [.int .i64 0]).setBox b3 [.int .i64 0],?_,St.Xg (St.Xg (St.Xg (St.le_refl _) f1.1 _) f2a.1 _) f3b.1 _,?_,?_,?_,?_⟩
  ·simp [St.setBox,n14.symm,n24.symm,n34.symm];exact f4c.1
  ·simp [St.setBox,n12,n13]
  ·simp [St.setBox,n23]
  ·simp [St.setBox]
  ·simp only [St.setBox,St.mk.injEq,and_true]
   funext x
   by_cases x1:x=b1
   ·subst x1;simp [n12,n13,n14]
   ·by_cases x4:x=b4
    ·subst x4;simp [x1]
    ·simp [x1,x4]
 refine XhP (st':=s0.setBox b4 (qC s pos false [] .full [] .full)) hst ?_
 clear kk f4 f4a f4b f3 f3a f2 hst
 have a1:∀C,(s0.setBox b4 C).box b1=some [.ptr b4 0]:=fun C=>(XB n14.symm).trans m1
 by_cases hq:hdF (s.drop pos)=34∨hdF (s.drop pos)=39
 ·refine Xl Xb ?_
  repeat' ((conv=>whnf);first|(with_reducible first|exact Wa|exact Wb|exact Wc|refine Wd (by kernel_rfl) ?_|refine We ?_ ?_ ?_|refine W8 (by decide +kernel) ?_ ?_ ?_|refine W0 (by decide +kernel) ?_ ?_ ?_|refine W9 ?_ ?_ ?_|refine Yc0 ?_|(refine Yc1 ?_ ?_<;>intro _)|refine Wl (fun _=>?_)|refine Wz (fun _=>?_)|refine WA (fun _=>?_)|refine WJ (fun _=>?_)|refine WL (by assumption) (by omega) ?_|refine WM (by omega) (by omega) (fun _ _=>?_))|with_reducible refine WF ?_)
  all_goals conv=>whnf
  all_goals refine ⟨rfl,Xo rfl ?_⟩
  all_goals exact AW_weak (Xkf hl hq hs0 (St.le_trans hsl (St.le_refl _)) n12 n13 n14 n23 n24 n34 f1.1 f2a.1 f3b.1 f4c.1 m1 m2 m3 h) Yl (St.le_refl _)
 ·have hz:quoF s pos=(0,0,0):=by unfold quoF;rw [if_neg (fun x=>hq (.inl x)),if_neg (fun x=>hq (.inr x))]
  rw [hz] at h
  have a1':∀C C',((s0.setBox b4 C).setBox b4 C').box b1=some [.ptr b4 0]:=fun C C'=>(XB n14.symm).trans (a1 C)
  have a2':∀C C' D,(((s0.setBox b4 C).setBox b4 C').setBox b1 D).box b2=some [.int .i64 0]:=fun C C' D=>(XB n12).trans ((XB n24.symm).trans ((XB n24.symm).trans m2))
  have a3':∀C C' D F,((((s0.setBox b4 C).setBox b4 C').setBox b1 D).setBox b2 F).box b3=some [.int .i64 0]:=fun C C' D F=>(XB n23).trans ((XB n13).trans ((XB n34.symm).trans ((XB n34.symm).trans m3)))
  have e3:∀C C' D F G,(((((s0.setBox b4 C).setBox b4 C').setBox b1 D).setBox b2 F).setBox b3 G).box b3=some G:=fun C C' D F G=>St.Xv _ _ _
  have e2:∀C C' D F G,(((((s0.setBox b4 C).setBox b4 C').setBox b1 D).setBox b2 F).setBox b3 G).box b2=some F:=fun C C' D F G=>(XB n23.symm).trans (St.Xv _ _ _)
  have e1:∀C C' D F G,(((((s0.setBox b4 C).setBox b4 C').setBox b1 D).setBox b2 F).setBox b3 G).box b1=some D:=fun C C' D F G=>(XB n13.symm).trans ((XB n12.symm).trans (St.Xv _ _ _))
  have e4:∀C C' D F G,(((((s0.setBox b4 C).setBox b4 C').setBox b1 D).setBox b2 F).setBox b3 G).box b4=some C':=fun C C' D F G=>(XB n34).trans ((XB n24).trans ((XB n14).trans (St.Xv _ _ _)))
  refine Xl Xb ?_
  repeat' ((conv=>whnf);first|(with_reducible first|exact Wa|exact Wb|exact Wc|refine Wd (by kernel_rfl) ?_|refine We ?_ ?_ ?_|refine W8 (by decide +kernel) ?_ ?_ ?_|refine W0 (by decide +kernel) ?_ ?_ ?_|refine W9 ?_ ?_ ?_|refine Yc0 ?_|(refine Yc1 ?_ ?_<;>intro _)|refine Wl (fun _=>?_)|refine Wz (fun _=>?_)|refine WA (fun _=>?_)|refine WJ (fun _=>?_)|refine WL (by assumption) (by omega) ?_|refine WM (by omega) (by omega) (fun _ _=>?_))|refine Xe (a1 _) ?_|refine Xe (St.Xv _ _ _) ?_|refine Xe (a1' _ _) ?_|refine Xe (a2' _ _ _) ?_|refine Xe (a3' _ _ _ _) ?_|refine Xe (e1 _ _ _ _ _) ?_|refine Xe (e2 _ _ _ _ _) ?_|refine Xe (e3 _ _ _ _ _) ?_|with_reducible refine WF ?_)
  exact fin (h b4 0 false [] .full [] .full _ (St.Xg (St.Xg (St.Xg (St.Xg (St.Xg hsl f4c.1 _) f4c.1 _) f1.1 _) f2a.1 _) f3b.1 _) (e4 _ _ _ _ _) rfl) rfl
end
section
variable {st:St} {R:Res→St→Prop}
attribute [local irreducible] Go.Aw.appendTo
theorem qscan_c {s:List UInt8} {pos:Nat} (hl:s.length≤100000000) (hp:pos<s.length) (h:R (.ret (.tup [.int .i64 (quoF s pos).1,.int .i64 (quoF s pos).2.1,.int .i64 (quoF s pos).2.2])) st):PC 155 [.str s,.int .i64 pos] st R:=by
 refine Xa Xb [] Tryz.func155 rfl (by decide) ?_
 repeat' ((conv=>whnf);first|(with_reducible first|exact Wa|exact Wb|exact Wc|refine Wd (by kernel_rfl) ?_|refine We ?_ ?_ ?_|refine W8 (by decide +kernel) ?_ ?_ ?_|refine W0 (by decide +kernel) ?_ ?_ ?_|refine W9 ?_ ?_ ?_|refine Yc0 ?_|(refine Yc1 ?_ ?_<;>intro _))|refine read_c hl hp (fun b4 q tx o w1 g w2 st' hst hb hq=>?_)|refine Xe hb ?_|with_reducible refine WF ?_)
 all_goals rw [←hq] at h
 all_goals exact finl hst rfl h
end
end Go.Proofs.YtkidoddkbhchkaaGreatDoor
namespace Go.Aw
open Go
theorem Xhn {l:List UInt8} (h:(prefF l).1≠10):numF l=(11,2+rowN (prefF l).1 (l.drop 2)):=if_pos h
theorem XmI {l:List UInt8} (h:(prefF l).1=10) (k:rowN 10 l=0):numF l=(0,0):=by unfold numF;rw [if_neg (fun e=>e h),if_pos k]
theorem Xho {l:List UInt8} {n f e:Nat} (h:(prefF l).1=10) (hn:rowN 10 l=n) (h0:n≠0) (hf:fracN (l.drop n)=f) (he:expN (l.drop (n+f))=e):numF l=(if 0<f∨0<e then 12 else 11,n+f+e):=by
 subst hn;subst hf;subst he
 unfold numF;rw [if_neg (fun e=>e h),if_neg h0]
theorem XiL {l:List UInt8} {b:Int} (h:prefF l=(b,2)):hdF l=48∧2≤l.length:=by
 unfold prefF at h
 split at h
 ·rename_i hc
  refine ⟨hc.1,?_⟩
  have:=hc.2.2
  have h1:=Zd (baseF l) (l.drop 2)
  rw [List.length_drop] at h1
  omega
 ·injection h with _ h;cases h
def nscF (s:List UInt8) (pos:Nat):Int×Int:=if (numF (s.drop pos)).1=0 then (0,0) else ((numF (s.drop pos)).1,(pos+(numF (s.drop pos)).2:Nat))
end Go.Aw
namespace Go.Proofs.YtkidoddkbhchkaaGreatDoor
open Go Go.Aw
section
variable {st:St} {R:Res→St→Prop}
theorem dot_e {s:List UInt8} {i:Int} {n:Nat} (e:i.toNat=n) (h:R (.ret (.bool (decide (hdF (s.drop n)=46)))) st):PC 87 [.str (s.drop i.toNat),.str [46]] st R:=by
 refine Ue ?_
 rw [pre1,e]
 exact h
theorem XgW {s:List UInt8} {i:Int} {n:Nat} (e:i.toNat=n) (hl:s.length≤4611686018427387903) (h:R (.ret (.int .i64 (expN (s.drop n):Nat))) st):PC 280 [.str (s.drop i.toNat)] st R:=by
 rw [e];exact XgV (by rw [List.length_drop];omega) h
theorem row_e {s:List UInt8} {i b:Int} {n:Nat} (e:i.toNat=n) (hl:s.length≤4611686018427387903) (h:R (.ret (.int .i64 (rowN b (s.drop n):Nat))) st):PC 279 [.str (s.drop i.toNat),.int .i64 b] st R:=by
 rw [e];exact row_c (by rw [List.length_drop];omega) h
theorem row_v {s:List UInt8} {i b:Int} {n v:Nat} (e:i.toNat=n) (hv:rowN b (s.drop n)=v) (hl:s.length≤4611686018427387903) (h:R (.ret (.int .i64 v)) st):PC 279 [.str (s.drop i.toNat),.int .i64 b] st R:=
 row_e e hl (by rw [hv];exact h)
theorem XbX {s:List UInt8} {i:Int} {n v:Nat} (e:i.toNat=n) (hv:expN (s.drop n)=v) (hl:s.length≤4611686018427387903) (h:R (.ret (.int .i64 v)) st):PC 280 [.str (s.drop i.toNat)] st R:=
 XgW e hl (by rw [hv];exact h)
theorem Xba {s:List UInt8} {k i:Int} {n:Nat} (e1:numF s=(k,n)) (e2:i.toNat=n):Res.ret (.tup [.int .i64 (numF s).1,.str (s.take (numF s).2)])=Res.ret (.tup [.int .i64 k,.str (s.take i.toNat)]):=by rw [e1,e2]
theorem XmJ {s:List UInt8} (e1:numF s=(0,0)):Res.ret (.tup [.int .i64 (numF s).1,.str (s.take (numF s).2)])=Res.ret (.tup [.int .i64 0,.str []]):=by rw [e1];rfl
theorem Ux {s:List UInt8} {b:Int} {n:Nat} (hp:prefF s=(b,n)) (hl:s.length≤4611686018427387903) (h:R (.ret (.tup [.int .i64 b,.int .i64 n])) st):PC 278 [.str s] st R:=
 Xhs hl (by rw [hp];exact h)
theorem XiD {s:List UInt8} (hl:s.length≤4611686018427387903) (h:R (.ret (.tup [.int .i64 (numF s).1,.str (s.take (numF s).2)])) st):PC 228 [.str s] st R:=by
 have hle:=Xeq s
 refine Xa Xb [] Tryz.func228 rfl (by decide) ?_
 rcases GR s with hp|⟨hp,_⟩|⟨hp,_⟩
 ·have h1:=Zd 10 s
  have h2:=Xfw (s.drop (rowN 10 s))
  have h3:=Xio (s.drop (rowN 10 s+fracN (s.drop (rowN 10 s))))
  rw [List.length_drop] at h2 h3
  generalize hr:rowN 10 s=r at h1 h2 h3
  have hr0:rowN 10 (s.drop 0)=r:=hr
  generalize hf:fracN (s.drop r)=f at h2 h3
  generalize he:expN (s.drop (r+f))=e at h3
  have h4:=Zd 10 (s.drop (r+1))
  have e0:(prefF s).1=10:=by rw [hp]
  have hlt:=Xll s r
  have hfd:(hdF (s.drop r)=46∧rowN 10 (s.drop (r+1))≠0∧f=1+rowN 10 (s.drop (r+1)))∨((hdF (s.drop r)≠46∨rowN 10 (s.drop (r+1))=0)∧f=0):=by
   rw [←hf]
   unfold fracN
   rw [List.drop_drop]
   split<;>omega
  rw [List.length_drop] at h4
  generalize hd:rowN 10 (s.drop (r+1))=d at h4 hfd
  repeat' ((conv=>whnf);first|(with_reducible first|exact Wa|exact Wb|exact Wc|refine Wd (by kernel_rfl) ?_|refine We ?_ ?_ ?_|refine W8 (by decide +kernel) ?_ ?_ ?_|refine W0 (by decide +kernel) ?_ ?_ ?_|refine W9 ?_ ?_ ?_|refine Yc0 ?_|(refine Yc1 ?_ ?_<;>intro _)|refine Wo (by omega) (by omega) ?_|refine Wp (by omega) (by omega) (by omega) ?_|refine Wq (by omega) (by omega) ?_|refine WE (by omega) (by omega) (by omega) ?_|refine WN (by omega) (by omega) ?_|refine WO (by omega) (by omega) ?_|refine WP (by omega) (by omega) (by omega) ?_)|refine Ux hp hl ?_|refine row_v (by omega) hr0 hl ?_|refine row_v (by omega) hd hl ?_|refine dot_e (n:=r) (by omega) ?_|refine XbX (by omega) he hl ?_|refine XbX (by omega) he' hl ?_|with_reducible refine WF ?_)
  all_goals first
   |(have e1:=XmI e0 (by omega);exact fin h (XmJ e1))
   |(have e1:=Xho e0 hr (by omega) hf he;rw [if_pos (by omega)] at e1;exact fin h (Xba e1 (by omega)))
   |(have e1:=Xho e0 hr (by omega) hf he;rw [if_neg (by omega)] at e1;exact fin h (Xba e1 (by omega)))
 ·have hr:=Zd 8 (s.drop 2)
  have h2:=(XiL hp).2
  rw [List.length_drop] at hr
  repeat' ((conv=>whnf);first|(with_reducible first|exact Wa|exact Wb|exact Wc|refine Wd (by kernel_rfl) ?_|refine We ?_ ?_ ?_|refine W8 (by decide +kernel) ?_ ?_ ?_|refine W0 (by decide +kernel) ?_ ?_ ?_|refine W9 ?_ ?_ ?_|refine Yc0 ?_|(refine Yc1 ?_ ?_<;>intro _)|refine Wo (by omega) (by omega) ?_|refine Wp (by omega) (by omega) (by omega) ?_|refine Wq (by omega) (by omega) ?_|refine WE (by omega) (by omega) (by omega) ?_|refine WN (by omega) (by omega) ?_|refine WO (by omega) (by omega) ?_|refine WP (by omega) (by omega) (by omega) ?_)|refine Ux hp hl ?_|refine row_e (n:=2) (by omega) hl ?_|with_reducible refine WF ?_)
  all_goals (have e1:=Xhn (l:=s) (by rw [hp];decide);rw [hp] at e1;dsimp only at e1;exact fin h (Xba e1 (by omega)))
 ·have hr:=Zd 16 (s.drop 2)
  have h2:=(XiL hp).2
  rw [List.length_drop] at hr
  repeat' ((conv=>whnf);first|(with_reducible first|exact Wa|exact Wb|exact Wc|refine Wd (by kernel_rfl) ?_|refine We ?_ ?_ ?_|refine W8 (by decide +kernel) ?_ ?_ ?_|refine W0 (by decide +kernel) ?_ ?_ ?_|refine W9 ?_ ?_ ?_|refine Yc0 ?_|(refine Yc1 ?_ ?_<;>intro _)|refine Wo (by omega) (by omega) ?_|refine Wp (by omega) (by omega) (by omega) ?_|refine Wq (by omega) (by omega) ?_|refine WE (by omega) (by omega) (by omega) ?_|refine WN (by omega) (by omega) ?_|refine WO (by omega) (by omega) ?_|refine WP (by omega) (by omega) (by omega) ?_)|refine Ux hp hl ?_|refine row_e (n:=2) (by omega) hl ?_|with_reducible refine WF ?_)
  all_goals (have e1:=Xhn (l:=s) (by rw [hp];decide);rw [hp] at e1;dsimp only at e1;exact fin h (Xba e1 (by omega)))
theorem XmH {s:List UInt8} {pos:Nat} (hl:s.length≤4611686018427387903) (hp:pos<s.length) (h:R (.ret (.tup [.int .i64 (nscF s pos).1,.int .i64 (nscF s pos).2])) st):PC 154 [.str s,.int .i64 pos] st R:=by
 have hw:=Xeq (s.drop pos)
 have ht:((s.drop pos).take (numF (s.drop pos)).2).length=(numF (s.drop pos)).2:=by rw [List.length_take];omega
 rw [List.length_drop] at hw
 have hld:(s.drop pos).length≤4611686018427387903:=by rw [List.length_drop];omega
 refine Xa Xb [] Tryz.func154 rfl (by decide) ?_
 repeat' ((conv=>whnf);first|(with_reducible first|refine Yc0 ?_|(refine Yc1 ?_ ?_<;>intro _)|refine Wl (fun _=>?_)|refine Wo (by omega) (by omega) ?_|refine Wp (by omega) (by omega) (by omega) ?_|refine Wq (by omega) (by omega) ?_|refine Wz (fun _=>?_)|refine WA (fun _=>?_)|refine WE (by omega) (by omega) (by omega) ?_|refine WJ (fun _=>?_)|refine WN (by omega) (by omega) ?_|refine WO (by omega) (by omega) ?_|refine WP (by omega) (by omega) (by omega) ?_)|refine XiD hld ?_)
 ·exact fin h (by unfold nscF;rw [if_pos (by assumption)];simp_all)
 ·exact fin h (by unfold nscF;rw [if_neg (by assumption)];simp only [];rw [show (pos:Int).toNat=pos by omega] at *;rw [ht];rfl)
end
end Go.Proofs.YtkidoddkbhchkaaGreatDoor
namespace Go.Aw
open Go
def lexmF (s:List UInt8) (p:Nat):Int×Int×Int:=
 if (nscF s p).1≠0 then ((nscF s p).1,(nscF s p).2,0)
 else if (quoF s p).1=0∧(quoF s p).2.2=0 then
  if (wscanF s p).1=0 then (0,p,70) else ((wscanF s p).1,(wscanF s p).2,0)
 else quoF s p
def lxC (s:List UInt8) (p sp:Nat) (ln col:Int) (toks notes:List (List V)) (w1 w2:Own) (gap ends:Int) (j:Bool):List V:=
 [.str s,.int .i64 p,.int .i64 sp,.int .i64 ln,.int .i64 col,.slice 4 toks w1,.slice 5 notes w2,.int .i64 gap,.int .i64 ends,.bool j]
end Go.Aw
namespace Go.Proofs.YtkidoddkbhchkaaGreatDoor
open Go Go.Aw
section
variable {st:St} {R:Res→St→Prop}
theorem lnum_c {s:List UInt8} {b p sp:Nat} {ln col gap ends:Int} {toks notes:List (List V)} {w1 w2:Own} {j:Bool} (hl:s.length≤100000000) (hp:p<s.length) (hb:st.box b=some (lxC s p sp ln col toks notes w1 w2 gap ends j))
 (h:R (.ret (.agg [.int .i64 (nscF s p).1,.int .i64 (nscF s p).2,.int .i64 0])) st):PC 91 [.ptr b 0] st R:=by
 refine Xa Xb [] Tryz.func91 rfl (by decide) ?_
 repeat' ((conv=>whnf);first|(with_reducible first|exact Wa|exact Wb|exact Wc|refine Wd (by kernel_rfl) ?_|refine We ?_ ?_ ?_|refine W8 (by decide +kernel) ?_ ?_ ?_|refine W0 (by decide +kernel) ?_ ?_ ?_|refine W9 ?_ ?_ ?_|refine Yb0 ?_|(refine Yb1 ?_ ?_<;>intro _))|refine Xe hb ?_|refine XmH (by omega) hp ?_|with_reducible refine WF ?_)
 all_goals exact fin h rfl
theorem lwrd_c {s:List UInt8} {b p sp:Nat} {ln col gap ends:Int} {toks notes:List (List V)} {w1 w2:Own} {j:Bool} (hl:s.length≤100000000) (hp:p<s.length) (hb:st.box b=some (lxC s p sp ln col toks notes w1 w2 gap ends j))
 (h:R (.ret (.agg [.int .i64 (wscanF s p).1,.int .i64 (wscanF s p).2,.int .i64 0])) st):PC 93 [.ptr b 0] st R:=by
 refine Xa Xb [] Tryz.func93 rfl (by decide) ?_
 repeat' ((conv=>whnf);first|(with_reducible first|exact Wa|exact Wb|exact Wc|refine Wd (by kernel_rfl) ?_|refine We ?_ ?_ ?_|refine W8 (by decide +kernel) ?_ ?_ ?_|refine W0 (by decide +kernel) ?_ ?_ ?_|refine W9 ?_ ?_ ?_|refine Yb0 ?_|(refine Yb1 ?_ ?_<;>intro _))|refine Xe hb ?_|refine XnF hl hp ?_|with_reducible refine WF ?_)
 all_goals exact fin h rfl
theorem llit_c {s:List UInt8} {b p sp:Nat} {ln col gap ends:Int} {toks notes:List (List V)} {w1 w2:Own} {j:Bool} (hl:s.length≤100000000) (hp:p<s.length) (hb:st.box b=some (lxC s p sp ln col toks notes w1 w2 gap ends j))
 (h:R (.ret (.agg [.int .i64 (quoF s p).1,.int .i64 (quoF s p).2.1,.int .i64 (quoF s p).2.2])) st):PC 92 [.ptr b 0] st R:=by
 refine Xa Xb [] Tryz.func92 rfl (by decide) ?_
 repeat' ((conv=>whnf);first|(with_reducible first|exact Wa|exact Wb|exact Wc|refine Wd (by kernel_rfl) ?_|refine We ?_ ?_ ?_|refine W8 (by decide +kernel) ?_ ?_ ?_|refine W0 (by decide +kernel) ?_ ?_ ?_|refine W9 ?_ ?_ ?_|refine Yb0 ?_|(refine Yb1 ?_ ?_<;>intro _))|refine Xe hb ?_|refine qscan_c hl hp ?_|with_reducible refine WF ?_)
 all_goals exact fin h rfl
theorem Xmq {s:List UInt8} {b p sp:Nat} {ln col gap ends:Int} {toks notes:List (List V)} {w1 w2:Own} {j:Bool} (hl:s.length≤100000000) (hp:p<s.length) (hb:st.box b=some (lxC s p sp ln col toks notes w1 w2 gap ends j))
 (h:R (.ret (.agg [.int .i64 (lexmF s p).1,.int .i64 (lexmF s p).2.1,.int .i64 (lexmF s p).2.2])) st):PC 47 [.ptr b 0] st R:=by
 refine Xa Xb [] Tryz.func47 rfl (by decide) ?_
 have hh:∀a b c,lexmF s p=(a,b,c)→R (.ret (.agg [.int .i64 a,.int .i64 b,.int .i64 c])) st:=fun a b c e=>by rw [e] at h;exact h
 clear h
 unfold lexmF at hh
 repeat' ((conv=>whnf);first|(with_reducible first|refine Yb0 ?_|(refine Yb1 ?_ ?_<;>intro _))|refine lnum_c hl hp hb ?_|refine llit_c hl hp hb ?_|refine lwrd_c hl hp hb ?_|refine Xe hb ?_)
 ·exact fin (hh _ _ _ (by rw [if_neg (by omega),if_pos ⟨by omega,by omega⟩,if_pos (by omega)])) rfl
 ·exact fin (hh _ _ _ (by rw [if_neg (by omega),if_pos ⟨by omega,by omega⟩,if_neg (by omega)])) rfl
 ·exact fin (hh _ _ _ (by rw [if_neg (by omega),if_neg (fun x=>by omega)])) rfl
 ·exact fin (hh _ _ _ (by rw [if_neg (by omega),if_neg (fun x=>by omega)])) rfl
 ·exact fin (hh _ _ _ (by rw [if_pos (by omega)])) rfl
end
section
variable {st:St} {R:Res→St→Prop}
theorem Xe7 {k ln col:Int} {t:List UInt8} (h:R (.ret (.bool (decide (¬k=15)|| !Lib.contains [123,125,59] t))) st):PC 94 [.agg [.int .i64 k,.str t,.int .i64 ln,.int .i64 col]] st R:=by
 refine Xa Xb [] Tryz.func94 rfl (by decide) ?_
 repeat' ((conv=>whnf);first|(with_reducible first|refine Yb0 ?_|(refine Yb1 ?_ ?_<;>intro _)|refine Wq (by omega) (by omega) ?_)|refine XgP (by decide) ?_)
 all_goals first
  |exact Xq h (by simp [*])
  |(rename_i hk _;exact Xq h (by simp [hk]))
theorem Gl {s:List UInt8} {b p sp:Nat} {ln col gap ends:Int} {toks notes:List (List V)} {w1 w2:Own} {j:Bool} (hl:s.length≤100000000) (hp:p≤s.length) (hb:st.box b=some (lxC s p sp ln col toks notes w1 w2 gap ends j))
 (h:R (.ret (.tup [])) (st.setBox b (lxC s (p+spanR (fun c=>classF c==1) (s.drop p)) sp ln col toks notes w1 w2 gap ends j))):PC 44 [.ptr b 0] st R:=by
 refine Xa Xb [] Tryz.func44 rfl (by decide) ?_
 repeat' ((conv=>whnf);first|refine Xk [(0,true),(1,true),(2,true),(3,true),(4,true),(5,true),(6,true),(7,true),(8,true),(9,false),(10,true),(11,true),(12,false)] [] (by decide +kernel) ?_|(with_reducible first|exact Wa|exact Wb|exact Wc|refine Wd (by kernel_rfl) ?_|refine We ?_ ?_ ?_|refine W8 (by decide +kernel) ?_ ?_ ?_|refine W0 (by decide +kernel) ?_ ?_ ?_|refine W9 ?_ ?_ ?_|refine Yb0 ?_|(refine Yb1 ?_ ?_<;>intro _))|refine Xe hb ?_|refine VD hl hp rfl rfl ?_|with_reducible refine WF ?_)
 all_goals exact fin h rfl
end
end Go.Proofs.YtkidoddkbhchkaaGreatDoor
namespace Go.Aw
open Go
def pieceF (s:List UInt8) (a b:Nat):List UInt8:=(s.take b).drop a
theorem Xex {s:List UInt8} {a b:Nat} {K:List UInt8→Prop} (h1:a≤b) (h2:b≤s.length) (k:K (pieceF s a b)):
 (0≤(a:Int)∧(a:Int)≤b∧(b:Int)≤s.length)∧∀s',s'=(s.take (b:Int).toNat).drop (a:Int).toNat→K s':=
 ⟨⟨by omega,by omega,by omega⟩,fun s' e=>by
   rw [show (b:Int).toNat=b by omega,show (a:Int).toNat=a by omega] at e
   subst e;exact k⟩
end Go.Aw
namespace Go.Proofs.YtkidoddkbhchkaaGreatDoor
open Go Go.Aw
section
variable {st:St} {R:Res→St→Prop}
theorem to_c {s:List UInt8} {b p sp q:Nat} {ln col gap ends:Int} {toks notes:List (List V)} {w1 w2:Own} {j:Bool} (hl:s.length≤100000000) (hsp:sp≤q) (hq:q≤s.length) (hln:1≤ln∧ln≤1000000000) (hcol:1≤col∧col≤2147483648)
 (hw:1≤(walkP (pieceF s sp q) (pieceF s sp q).length (1,1)).1∧(walkP (pieceF s sp q) (pieceF s sp q).length (1,1)).1≤1000000000)
 (hb:st.box b=some (lxC s p sp ln col toks notes w1 w2 gap ends j))
 (h:R (.ret (.tup [.int .i64 (ln+(walkP (pieceF s sp q) (pieceF s sp q).length (1,1)).1 - 1),.int .i64 (walkP (pieceF s sp q) (pieceF s sp q).length (1,col)).2]))
   (st.setBox b (lxC s p q (ln+(walkP (pieceF s sp q) (pieceF s sp q).length (1,1)).1 - 1) (walkP (pieceF s sp q) (pieceF s sp q).length (1,col)).2 toks notes w1 w2 gap ends j))):PC 90 [.ptr b 0,.int .i64 q] st R:=by
 have hpl:(pieceF s sp q).length≤100000000:=by unfold pieceF;rw [List.length_drop,List.length_take];omega
 have b2:∀cs,(st.setBox b cs).box b=some cs:=fun cs=>St.Xv _ _ _
 refine Xa Xb [] Tryz.func90 rfl (by decide) ?_
 repeat' ((conv=>whnf);first|(with_reducible first|exact Wa|exact Wb|exact Wc|refine Wd (by kernel_rfl) ?_|refine We ?_ ?_ ?_|refine W8 (by decide +kernel) ?_ ?_ ?_|refine W0 (by decide +kernel) ?_ ?_ ?_|refine W9 ?_ ?_ ?_|refine Yb0 ?_|(refine Yb1 ?_ ?_<;>intro _)|refine Wl (fun _=>?_)|refine Wo (by omega) (by omega) ?_|refine Wp (by omega) (by omega) (by omega) ?_|refine Wq (by omega) (by omega) ?_|refine Wz (fun _=>?_)|refine WA (fun _=>?_)|refine WE (by omega) (by omega) (by omega) ?_)|refine Xex hsp hq ?_|refine (fun (_:(pieceF s sp q).length<lim)=>?_)|refine of_c hpl (Nat.le_refl _) ?_|refine width_c hpl hcol.1 hcol.2 ?_|refine Xe hb ?_|refine Xe (b2 _) ?_|with_reducible refine WF ?_)
 all_goals exact fin h rfl
end
end Go.Proofs.YtkidoddkbhchkaaGreatDoor
namespace Go.Aw
open Go
def placeF (s:List UInt8) (a b:Nat) (p:Int×Int):Int×Int:=walkP (pieceF s a b) (pieceF s a b).length p
theorem Ud {s:List UInt8} {a b:Nat} (h1:a≤b) (h2:b≤s.length):(pieceF s a b).length=b - a:=by
 unfold pieceF;rw [List.length_drop,List.length_take];omega
theorem XiI {s:List UInt8} {a b:Nat} {p:Int×Int} (h1:a≤b) (h2:b≤s.length) (h:1≤p.2):p.1≤(placeF s a b p).1∧(placeF s a b p).1≤p.1+(b - a:Nat)∧1≤(placeF s a b p).2∧(placeF s a b p).2≤p.2+8*(b - a:Nat):=by
 have:=XeR _ (pieceF s a b) (pieceF s a b).length p (Nat.le_refl _) h
 rw [Ud h1 h2] at this
 unfold placeF
 rw [Ud h1 h2]
 omega
end Go.Aw
namespace Go.Proofs.YtkidoddkbhchkaaGreatDoor
open Go Go.Aw
section
variable {st:St} {R:Res→St→Prop}
theorem to_k {s:List UInt8} {b p sp q:Nat} {ln col gap ends:Int} {toks notes:List (List V)} {w1 w2:Own} {j:Bool} (hl:s.length≤100000000) (hsp:sp≤q) (hq:q≤s.length) (hln:1≤ln∧ln≤1000000000) (hcol:1≤col∧col≤2147483648)
 (hb:st.box b=some (lxC s p sp ln col toks notes w1 w2 gap ends j))
 (h:R (.ret (.tup [.int .i64 (placeF s sp q (ln,col)).1,.int .i64 (placeF s sp q (ln,col)).2]))
   (st.setBox b (lxC s p q (placeF s sp q (ln,col)).1 (placeF s sp q (ln,col)).2 toks notes w1 w2 gap ends j))):PC 90 [.ptr b 0,.int .i64 q] st R:=by
 have hlen:=Ud hsp hq
 have h1:=XeR _ (pieceF s sp q) (pieceF s sp q).length (1,1) (Nat.le_refl _) (by decide)
 have h2:=XdE _ (pieceF s sp q) (pieceF s sp q).length 1 1 col ln (Nat.le_refl _)
 have h3:=Xgw _ (pieceF s sp q) (pieceF s sp q).length 1 col ln (Nat.le_refl _)
 have e1:ln+(walkP (pieceF s sp q) (pieceF s sp q).length (1,1)).1 - 1=(placeF s sp q (ln,col)).1:=by unfold placeF;omega
 have e2:(walkP (pieceF s sp q) (pieceF s sp q).length (1,col)).2=(placeF s sp q (ln,col)).2:=h3
 refine to_c hl hsp hq hln hcol ⟨by dsimp only at h1;omega,by dsimp only at h1;omega⟩ hb ?_
 rw [e1,e2]
 exact h
end
end Go.Proofs.YtkidoddkbhchkaaGreatDoor
namespace Go.Aw
open Go
theorem Xgv {l:List UInt8} {a:Nat} (h:Cut l a) (k:Nat) (p:Int×Int):walkP l (a+k) p=walkP (l.drop a) k (walkP l a p):=by
 induction h generalizing p with
 |zero l=>rw [Zy,Nat.zero_add,List.drop_zero]
 |@step l j hne h ih=>
  rw [QV hne (by omega),QV (k:=stepN l+j) hne (by omega),show stepN l+j+k - stepN l=j+k by omega,show stepN l+j - stepN l=j by omega,ih,List.drop_drop]
theorem UU {l:List UInt8} {m:Nat} (h:0<m):hdF (l.take m)=hdF l:=by
 cases l with
 |nil=>rw [List.take_nil]
 |cons a r=>
  obtain ⟨m,rfl⟩:∃k,m=k+1:=⟨m - 1,by omega⟩
  rfl
theorem Xdi {l:List UInt8} {m:Nat}:hdF ((l.take m).drop 1)=if 1<m then hdF (l.drop 1) else -1:=by
 rw [List.drop_take]
 by_cases h:1<m
 ·rw [if_pos h,UU (by omega)]
 ·rw [if_neg h,show m - 1=0 by omega,List.take_zero];rfl
theorem XmF {l:List UInt8} {m:Nat} (h:0<m) (h2:nlF l≤m):nlF (l.take m)=nlF l:=by
 rcases ZB l with ⟨e,h1⟩|⟨e,h1,h3⟩|⟨e,h1,h3⟩
 ·rw [e];unfold nlF;rw [UU h,if_neg (fun x=>h1 (.inl x.1)),if_neg h1]
 ·rw [e];unfold nlF;rw [UU h,Xdi,if_neg,if_pos h1]
  rintro ⟨x,y⟩
  split at y
  ·exact h3 ⟨x,y⟩
  ·exact absurd y (by decide)
 ·rw [e];unfold nlF;rw [UU h,Xdi,if_pos (show 1<m by omega),if_pos ⟨h1,h3⟩]
theorem XkK {l:List UInt8} {k:Nat} (h:Cut l k) (hv:Vd l) (p:Int×Int):walkP (l.take k) k p=walkP l k p:=by
 induction h generalizing p with
 |zero l=>rw [Zy,Zy]
 |@step l j hne h ih=>
  have h1:=Zp hne
  have hn:nlF (l.take (stepN l+j))=nlF l:=XmF (by omega) (by
   by_cases hc:0<nlF l
   ·have e:stepN l=nlF l:=if_pos hc
    omega
   ·omega)
  have hr:=hv.rune hne
  have es:stepN (l.take (stepN l+j))=stepN l:=by
   by_cases hc:0<nlF l
   ·have e3:stepN (l.take (stepN l+j))=nlF (l.take (stepN l+j)):=if_pos (by rw [hn];exact hc)
    rw [e3,hn];exact (if_pos hc).symm
   ·have e1:stepN l=(decR l).2:=if_neg hc
    have e2:decR (l.take (stepN l+j))=decR l:=by
     have:=XbF hne hr.1 ((l.take (stepN l+j)).drop (decR l).2)
     rwa [show l.take (decR l).2=(l.take (stepN l+j)).take (decR l).2 by rw [List.take_take,Nat.min_eq_left (by omega)],List.take_append_drop] at this
    have e3:stepN (l.take (stepN l+j))=(decR (l.take (stepN l+j))).2:=if_neg (by rw [hn];exact hc)
    rw [e3,e2];exact e1.symm
  have hne':l.take (stepN l+j)≠[]:=fun e=>by
   have:=congrArg List.length e
   rw [List.length_take,List.length_nil] at this;omega
  have hv':Vd (l.drop (stepN l)):=(Cut.step hne (.zero (l.drop (stepN l)))).bd.vd hv
  rw [QV hne' (by omega),QV hne (by omega),es,show stepN l+j - stepN l=j by omega,List.drop_take,show stepN l+j - stepN l=j by omega,ih hv']
  congr 1
  unfold stepL stepC
  rw [hn,UU (by omega)]
def atP (s:List UInt8) (p:Nat):Int×Int:=walkP s p (1,1)
theorem XmT {s:List UInt8} {a b:Nat} (hv:Vd s) (ha:Cut s a) (hb:Cut (s.drop a) (b - a)) (h:a≤b) (hl:b≤s.length):placeF s a b (atP s a)=atP s b:=by
 have e:pieceF s a b=(s.drop a).take (b - a):=by unfold pieceF;rw [List.drop_take]
 have hp:=Ud h hl
 unfold placeF atP
 rw [hp,e,XkK hb (ha.bd.vd hv),←Xgv ha,show a+(b - a)=b by omega]
def tr (l:List UInt8) (m:Nat) (r:List UInt8):List UInt8:=l.take m++r
def Brk (r:List UInt8):Prop:=hdF r= -1∨hdF r=32∨hdF r=10
theorem hdF_nil {r:List UInt8} (h:hdF r= -1):r=[]:=by
 cases r with
 |nil=>rfl
 |cons a r=>have h:((a.toNat:Nat):Int)= -1:=h;omega
theorem Xbl {l r:List UInt8}:tr l 0 r=r:=by unfold tr;rw [List.take_zero];rfl
theorem UE {l r:List UInt8} {m j:Nat} (h:j≤m) (hm:m≤l.length):(tr l m r).drop j=tr (l.drop j) (m - j) r:=by
 unfold tr;rw [List.drop_append_of_le_length (by rw [List.length_take];omega),List.drop_take]
theorem VX {l r:List UInt8} {m:Nat} (h:0<m) (hm:m≤l.length):hdF (tr l m r)=hdF l:=by
 cases l with
 |nil=>simp only [List.length_nil] at hm;omega
 |cons a l=>
  obtain ⟨m,rfl⟩:∃k,m=k+1:=⟨m - 1,by omega⟩
  rfl
theorem Xnx {l r:List UInt8} {m j:Nat} (h:j<m) (hm:m≤l.length):hdF ((tr l m r).drop j)=hdF (l.drop j):=by
 rw [UE (by omega) hm,VX (by omega) (by rw [List.length_drop];omega)]
theorem tr_take {l r:List UInt8} {m n:Nat} (h:n≤m) (hm:m≤l.length):(tr l m r).take n=l.take n:=by
 unfold tr
 rw [List.take_append_of_le_length (by rw [List.length_take];omega),List.take_take,Nat.min_eq_left h]
theorem XeL {l r:List UInt8} {m:Nat} (hm:m≤l.length):(tr l m r).length=m+r.length:=by
 unfold tr;rw [List.length_append,List.length_take,Nat.min_eq_left hm]
theorem Xli {l r:List UInt8} {m:Nat} (hv:Vd l) (h0:0<m) (hm:m≤l.length) (hb:Bd l m):decR (tr l m r)=decR l∧(decR l).2≤m:=by
 have hne:l≠[]:=fun e=>by rw [e] at hm;simp only [List.length_nil] at hm;omega
 have hd:(decR l).2≤m:=by
  cases hb with
  |zero=>omega
  |step _ _=>omega
 have:=XbF hne (hv.rune hne).1 ((l.take m).drop (decR l).2++r)
 rw [←List.append_assoc] at this
 rw [show l.take (decR l).2=(l.take m).take (decR l).2 by rw [List.take_take,Nat.min_eq_left hd],List.take_append_drop] at this
 exact ⟨this,hd⟩
theorem span_tr {p:Nat×Nat→Bool} {l r:List UInt8} {m:Nat} (hv:Vd l) (hb:Bd l m) (hm:m≤l.length) (hr:spanD p r=0) (h:spanD p l≤m):spanD p (tr l m r)=spanD p l:=by
 induction hb with
 |zero l=>rw [Xbl,hr];omega
 |@step l k hne hb ih=>
  have hp:=QI l
  have hd:=Xli (r:=r) hv (by omega) hm (.step hne hb)
  have hne':tr l ((decR l).2+k) r≠[]:=fun e=>by
   have:=congrArg List.length e
   rw [XeL hm] at this;simp only [List.length_nil] at this;omega
  cases hc:p (decR l) with
  |false=>rw [Zo hc,Zo (by rw [hd.1];exact hc)]
  |true=>
   rw [Qj hne hc] at h ⊢
   rw [Qj hne' (by rw [hd.1];exact hc),hd.1,UE (by omega) hm,show (decR l).2+k - (decR l).2=k by omega,ih (hv.rune hne).2 (by rw [List.length_drop];omega) (by omega)]
theorem brk_dec {r:List UInt8} (hr:Brk r):r=[]∨(r≠[]∧(((decR r).1:Nat):Int)=32)∨(r≠[]∧(((decR r).1:Nat):Int)=10):=by
 rcases hr with h|h|h
 ·exact .inl (hdF_nil h)
 ·exact .inr (.inl ⟨fun e=>by rw [e] at h;exact absurd h (by decide),by rw [(Zr (by omega) (by omega)).2,h]⟩)
 ·exact .inr (.inr ⟨fun e=>by rw [e] at h;exact absurd h (by decide),by rw [(Zr (by omega) (by omega)).2,h]⟩)
theorem Xnm {p:Int→Bool} {r:List UInt8} (hr:Brk r) (h1:p 32=false) (h2:p 10=false):spanR p r=0:=by
 rcases brk_dec hr with rfl|⟨_,h⟩|⟨_,h⟩
 ·exact XdA p
 ·exact XcB (by rw [h];exact h1)
 ·exact XcB (by rw [h];exact h2)
theorem Bd.sub {l:List UInt8} {i j:Nat} (h:Bd l i) (k:Bd l j) (hij:i≤j):Bd (l.drop i) (j - i):=by
 induction h generalizing j with
 |zero l=>exact k
 |@step l i hne h ih=>
  cases k with
  |zero=>have:=QI l;omega
  |@step _ j' _ k=>
   rw [show (decR l).2+j' - ((decR l).2+i)=j' - i by omega,←List.drop_drop]
   exact ih k (by omega)
theorem Xnd (s:List UInt8) (n:Nat) (k:Int):n≤(scanG s n k).2:=by
 fun_induction scanG s n k with
 |case1 n k hn hc ih=>omega
 |case2 n k hn hc=>exact Nat.le_refl _
 |case3 n k hn=>exact Nat.le_refl _
theorem Xke {l:List UInt8} (h:(plainF l).1≠0):0<(plainF l).2:=by
 by_cases h0:0<(plainF l).2
 ·exact h0
 ·exfalso
  cases l with
  |nil=>exact h rfl
  |cons a r=>
   have hne:a::r≠[]:=by simp
   have hp:=QI (a::r)
   apply h
   unfold plainF at h0 ⊢
   split
   ·rename_i h6;rw [if_pos h6] at h0;simp only at h0;omega
   ·rename_i h6
    rw [if_neg h6] at h0
    have key:∀p:Int→Bool,p (((decR (a::r)).1:Nat):Int)=true→0<spanR p (a::r):=fun p hp'=>by
     rw [Xkt hne hp'];omega
    split
    ·rename_i h5
     rw [if_pos h5] at h0
     have:=key (fun c=>classF c==5) (beq_iff_eq.2 h5)
     simp only at h0;omega
    ·rename_i h5
     rw [if_neg h5] at h0
     split
     ·rename_i h3
      rw [if_pos h3] at h0
      have h3':classF (((decR (a::r)).1:Nat):Int)=3:=h3
      have:=key inName (by unfold inName;rw [h3'];rfl)
      unfold nameN at h0;simp only at h0;omega
     ·rename_i h3
      rw [if_neg h3] at h0
      split
      ·rename_i h2
       rw [if_pos h2] at h0
       have h2':classF (((decR (a::r)).1:Nat):Int)=2:=h2
       have:=key inName (by unfold inName;rw [h2'];rfl)
       unfold nameN at h0;simp only at h0;omega
      ·rfl
def tokV (k:Int) (t:List UInt8) (p:Int×Int):List V:=[.int .i64 k,.str t,.int .i64 p.1,.int .i64 p.2]
theorem Xna {st0 st:St} {w1 w2:Own} {n2:Nat} {o:List (List V)} {k a b:Int} {t:List UInt8} {K:V→St→Prop} (h:Rows2 st0 st w1 (o.length*4) w2 n2) (hl:o.length≤1000000000)
 (kk:∀w1' st',Rows2 st0 st' w1' ((o.length+1)*4) w2 n2→st'.box=st.box→K (.slice 4 (o++[tokV k t (a,b)]) w1') st'):appendTo 4 40 o w1 [[.int .i64 k,.str t,.int .i64 a,.int .i64 b]] st K:=
 VB h rfl (by rw [List.length_singleton];omega) (by rw [List.length_singleton];unfold lim;omega) rfl (by simp) (fun w1' st' hr hb=>kk w1' st' hr hb)
end Go.Aw
namespace Go.Proofs.YtkidoddkbhchkaaGreatDoor
open Go Go.Aw
section
variable {st:St} {R:Res→St→Prop}
attribute [local irreducible] Go.Aw.appendTo
theorem token_c {st0:St} {s:List UInt8} {b p sp q n2:Nat} {k e0 ln col gap ends:Int} {toks notes:List (List V)} {w1 w2:Own} {j:Bool} (hl:s.length≤100000000) (hsp:sp≤p) (hpq:p≤q) (hq:q≤s.length) (hln:1≤ln∧ln≤800000000) (hcol:1≤col∧col≤1000000000)
 (hg:0≤gap∧gap≤1000000000) (ht:toks.length≤1000000000) (hb0:st0.box b=none) (hR:Rows2 st0 st w1 (toks.length*4) w2 n2) (hb:st.box b=some (lxC s p sp ln col toks notes w1 w2 gap ends j))
 (h:∀w1' st',Rows2 st0 st' w1' ((toks.length+1)*4) w2 n2→st'.box b=some (lxC s q q (placeF s p q (placeF s sp p (ln,col))).1 (placeF s p q (placeF s sp p (ln,col))).2 (toks++[tokV k (pieceF s p q) (placeF s sp p (ln,col))]) notes w1' w2
   (if decide (¬k=15)|| !Lib.contains [123,125,59] (pieceF s p q) then gap+1 else gap) (placeF s p q (placeF s sp p (ln,col))).1 true)→R (.ret (.tup [])) st'):PC 48 [.ptr b 0,.agg [.int .i64 k,.int .i64 q,.int .i64 e0]] st R:=by
 have z1:=XiI (s:=s) (p:=(ln,col)) hsp (by omega) hcol.1
 refine XV Xb [] Tryz.func48 rfl (by decide) rfl ?_
 refine Xn (Xl Xb ?_)
 repeat' ((conv=>whnf);first|(with_reducible first|exact Wa|exact Wb|exact Wc|refine Wd (by kernel_rfl) ?_|refine We ?_ ?_ ?_|refine W8 (by decide +kernel) ?_ ?_ ?_|refine W0 (by decide +kernel) ?_ ?_ ?_|refine W9 ?_ ?_ ?_|refine Yb0 ?_|(refine Yb1 ?_ ?_<;>intro _)|refine Wo (by omega) (by omega) ?_|refine Wp (by omega) (by omega) (by omega) ?_|refine Wq (by omega) (by omega) ?_|refine WE (by omega) (by omega) (by omega) ?_)|with_reducible refine WF ?_)
 refine Xn (Xl Xb ?_)
 repeat' ((conv=>whnf);first|(with_reducible first|exact Wa|exact Wb|exact Wc|refine Wd (by kernel_rfl) ?_|refine We ?_ ?_ ?_|refine W8 (by decide +kernel) ?_ ?_ ?_|refine W0 (by decide +kernel) ?_ ?_ ?_|refine W9 ?_ ?_ ?_|refine Yb0 ?_|(refine Yb1 ?_ ?_<;>intro _)|refine Wo (by omega) (by omega) ?_|refine Wp (by omega) (by omega) (by omega) ?_|refine Wq (by omega) (by omega) ?_|refine WE (by omega) (by omega) (by omega) ?_)|refine to_k hl hsp (by omega) (by omega) (by omega) hb ?_|refine Xe hb ?_|with_reducible refine WF ?_)
 generalize placeF s sp p (ln,col)=pl1 at h z1 ⊢
 have z2:=XiI (s:=s) (p:=pl1) hpq hq z1.2.2.1
 dsimp only at z1 z2
 refine Xn (Xl Xb ?_)
 repeat' ((conv=>whnf);first|(with_reducible first|exact Wa|exact Wb|exact Wc|refine Wd (by kernel_rfl) ?_|refine We ?_ ?_ ?_|refine W8 (by decide +kernel) ?_ ?_ ?_|refine W0 (by decide +kernel) ?_ ?_ ?_|refine W9 ?_ ?_ ?_|refine Yb0 ?_|(refine Yb1 ?_ ?_<;>intro _)|refine Wo (by omega) (by omega) ?_|refine Wp (by omega) (by omega) (by omega) ?_|refine Wq (by omega) (by omega) ?_|refine WE (by omega) (by omega) (by omega) ?_)|refine Xex hpq hq ?_|refine Xe (St.Xv _ _ _) ?_|with_reducible refine WF ?_)
 refine Xn (Xl Xb ?_)
 repeat' ((conv=>whnf);first|refine Xk [(0,true),(1,true),(2,true),(3,true),(4,true),(5,true),(6,true),(7,false),(8,true),(9,true),(10,false)] [] (by decide +kernel) ?_|(with_reducible first|exact Wa|exact Wb|exact Wc|refine Wd (by kernel_rfl) ?_|refine We ?_ ?_ ?_|refine W8 (by decide +kernel) ?_ ?_ ?_|refine W0 (by decide +kernel) ?_ ?_ ?_|refine W9 ?_ ?_ ?_|refine Yb0 ?_|(refine Yb1 ?_ ?_<;>intro _)|refine Wo (by omega) (by omega) ?_|refine Wp (by omega) (by omega) (by omega) ?_|refine Wq (by omega) (by omega) ?_|refine WE (by omega) (by omega) (by omega) ?_)|refine Xe (St.Xv _ _ _) ?_|refine Xna (hR.set hb0 _) ht (fun w1' st1 hr1 hb1=>?_)|refine Xe ((congrFun hb1 b).trans (St.Xv _ _ _)) ?_|with_reducible refine WF ?_)
 clear hR hb
 rcases hc:(decide (¬k=15)|| !Lib.contains [123,125,59] (pieceF s p q)) with _|_
 all_goals rw [hc] at h
 ·have hcc:∀{st:St} {R:Res→St→Prop},R (.ret (.bool false)) st→PC 94 [.agg [.int .i64 k,.str (pieceF s p q),.int .i64 pl1.1,.int .i64 pl1.2]] st R:=fun h=>Xe7 (by rw [hc];exact h)
  refine Xn (Xl Xb ?_)
  repeat' ((conv=>whnf);first|(with_reducible first|exact Wa|exact Wb|exact Wc|refine Wd (by kernel_rfl) ?_|refine We ?_ ?_ ?_|refine W8 (by decide +kernel) ?_ ?_ ?_|refine W0 (by decide +kernel) ?_ ?_ ?_|refine W9 ?_ ?_ ?_|refine Yb0 ?_|(refine Yb1 ?_ ?_<;>intro _)|refine Wo (by omega) (by omega) ?_|refine Wp (by omega) (by omega) (by omega) ?_|refine Wq (by omega) (by omega) ?_|refine WE (by omega) (by omega) (by omega) ?_)|refine hcc ?_|refine Xe (St.Xv _ _ _) ?_|with_reducible refine WF ?_)
  refine Xl Xb ?_
  repeat' ((conv=>whnf);first|(with_reducible first|exact Wa|exact Wb|exact Wc|refine Wd (by kernel_rfl) ?_|refine We ?_ ?_ ?_|refine W8 (by decide +kernel) ?_ ?_ ?_|refine W0 (by decide +kernel) ?_ ?_ ?_|refine W9 ?_ ?_ ?_|refine Yb0 ?_|(refine Yb1 ?_ ?_<;>intro _)|refine Wo (by omega) (by omega) ?_|refine Wp (by omega) (by omega) (by omega) ?_|refine Wq (by omega) (by omega) ?_|refine WE (by omega) (by omega) (by omega) ?_)|refine to_k hl hpq hq (by omega) (by omega) (St.Xv _ _ _) ?_|refine Xe (St.Xv _ _ _) ?_|with_reducible refine WF ?_)
  all_goals exact fin (h w1' _ ((((hr1.set hb0 _).set hb0 _).set hb0 _).set hb0 _) (St.Xv _ _ _)) rfl
 ·have hcc:∀{st:St} {R:Res→St→Prop},R (.ret (.bool true)) st→PC 94 [.agg [.int .i64 k,.str (pieceF s p q),.int .i64 pl1.1,.int .i64 pl1.2]] st R:=fun h=>Xe7 (by rw [hc];exact h)
  refine Xn (Xl Xb ?_)
  repeat' ((conv=>whnf);first|(with_reducible first|exact Wa|exact Wb|exact Wc|refine Wd (by kernel_rfl) ?_|refine We ?_ ?_ ?_|refine W8 (by decide +kernel) ?_ ?_ ?_|refine W0 (by decide +kernel) ?_ ?_ ?_|refine W9 ?_ ?_ ?_|refine Yb0 ?_|(refine Yb1 ?_ ?_<;>intro _)|refine Wo (by omega) (by omega) ?_|refine Wp (by omega) (by omega) (by omega) ?_|refine Wq (by omega) (by omega) ?_|refine WE (by omega) (by omega) (by omega) ?_)|refine hcc ?_|refine Xe (St.Xv _ _ _) ?_|with_reducible refine WF ?_)
  refine Xl Xb ?_
  repeat' ((conv=>whnf);first|(with_reducible first|exact Wa|exact Wb|exact Wc|refine Wd (by kernel_rfl) ?_|refine We ?_ ?_ ?_|refine W8 (by decide +kernel) ?_ ?_ ?_|refine W0 (by decide +kernel) ?_ ?_ ?_|refine W9 ?_ ?_ ?_|refine Yb0 ?_|(refine Yb1 ?_ ?_<;>intro _)|refine Wo (by omega) (by omega) ?_|refine Wp (by omega) (by omega) (by omega) ?_|refine Wq (by omega) (by omega) ?_|refine WE (by omega) (by omega) (by omega) ?_)|refine to_k hl hpq hq (by omega) (by omega) (St.Xv _ _ _) ?_|refine Xe (St.Xv _ _ _) ?_|with_reducible refine WF ?_)
  all_goals exact fin (h w1' _ (((((hr1.set hb0 _).set hb0 _).set hb0 _).set hb0 _).set hb0 _) (St.Xv _ _ _)) rfl
end
structure Nt where
 text:List UInt8
 gap:Int
 wh:Int
 line:Int
 col:Int
def Nt.cells (n:Nt):List V:=[.str n.text,.int .i64 n.gap,.int .i64 n.wh,.int .i64 n.line,.int .i64 n.col]
def encNs (l:List Nt):List (List V):=l.map Nt.cells
structure Lx where
 toks:List Tk
 notes:List Nt
 gap:Int
 ends:Int
 j:Bool
def lx0:Lx:=⟨[],[],0,0,false⟩
def cntF (k:Int) (t:List UInt8):Bool:=decide (¬k=15)|| !Lib.contains [123,125,59] t
def tokX (s:List UInt8) (p q:Nat) (k:Int) (x:Lx):Lx:=
 ⟨x.toks++[⟨k,pieceF s p q,(atP s p).1,(atP s p).2⟩],x.notes,if cntF k (pieceF s p q) then x.gap+1 else x.gap,(atP s q).1,true⟩
def blkF (s:List UInt8) (p:Nat):Nat:=p+spanR (fun c=>classF c==1) (s.drop p)
theorem Ul {s:List UInt8} {p:Nat} (h:p≤s.length):p≤blkF s p∧blkF s p≤s.length:=by
 have:=ZK (fun c=>classF c==1) (s.drop p)
 rw [List.length_drop] at this
 unfold blkF;omega
def behF (s:List UInt8) (p q:Nat) (x:Lx):Bool:=x.j&&decide (x.ends=(atP s p).1)&&decide ((atP s q).1=(atP s p).1)
def inlF (s:List UInt8) (p q:Nat):Bool:=decide (blkF s q<s.length)&&decide ((atP s (blkF s q)).1=(atP s p).1)
def noteX (s:List UInt8) (p q:Nat) (x:Lx):Lx:=
 ⟨x.toks,x.notes++[⟨pieceF s p q,x.gap,if behF s p q x then (if inlF s p q then 1 else 2) else 3,(atP s p).1,(atP s p).2⟩],x.gap,(atP s q).1,behF s p q x&&inlF s p q⟩
def lexL (s:List UInt8) (p:Nat) (x:Lx):Sum (Int×Int) Lx:=
 if hp:p<s.length then
  if (noteF s p).2≠0 then .inl ((p:Nat),(noteF s p).2)
  else if 0<(noteF s p).1 then
   (if hq:p<(noteF s p).1.toNat then lexL s (blkF s (noteF s p).1.toNat) (noteX s p (noteF s p).1.toNat x) else .inr x)
  else if (lexmF s p).2.2≠0 then .inl ((lexmF s p).2.1,(lexmF s p).2.2)
  else (if hq:p<(lexmF s p).2.1.toNat then lexL s (blkF s (lexmF s p).2.1.toNat) (tokX s p (lexmF s p).2.1.toNat (lexmF s p).1 x) else .inr x)
 else .inr x
termination_by s.length - p
decreasing_by
 all_goals unfold blkF;omega
def lexF (s:List UInt8):Sum (Int×Int) Lx:=
 if 16777216<s.length then .inl (0,3)
 else if (chkF s).2≠0 then .inl (chkF s)
 else if 0≤idxF (fun c=>classF (c:Nat)==0) s then .inl (idxF (fun c=>classF (c:Nat)==0) s,70)
 else lexL s (blkF s 0) lx0
theorem Xlf {s:List UInt8} (h:(chkF s).2=0):Vd s:=by
 unfold chkF at h
 split at h
 ·exact absurd h (show ¬(10:Int)=0 by decide)
 ·have:=GZ goodD s
  unfold Vd;omega
def ewk1:List UInt8:=[102,32,120,32,124,32,103,32,61,32,40,100,111,32,97,59,32,98,41,10,32,32,32,32,124,32,104,32,61,32,120,32,119,104,101,114,101,32,123,32,99,32,61,32,45,49,32,125,10,105,110,102,105,120,108,32,54,32,43,44,32,96,102,96]
def etok:List Tk:=match lexF ewk1 with| .inr x=>x.toks| .inl _=>[]
def esta:Sta:=⟨markF etok,0,[],0⟩
theorem ewk1_eq:(match lexF ewk1 with| .inr _=>true| .inl _=>false)=true:=by kernel_rfl
def tkOkB (l:List Tk):Bool:=l.all fun t=>decide (t.text.length≤100000000)&&(decide (-1000000000≤t.line)&&decide (t.line≤1000000000))
theorem etok_ok:(tkOkB etok&&decide (etok.length≤1000))=true:=by kernel_rfl
theorem esta_ok:decide ((markF etok).length≤100)=true:=by kernel_rfl
def ewk2:List Tk:=[⟨15,[40],0,0⟩,⟨1,[97],0,0⟩,⟨5,[43],0,0⟩,⟨15,[41],0,0⟩]
theorem echk1:(match (blockR declsF (declL (fullL 5) (lowR 4))).run esta with
 | .inr (n,s')=>(n.kind==2&&n.form==0)&&(s'.pos==(s'.toks.length:Nat)&&n.kids.map Nd.kind==[36,35])
 | .inl _=>false)=true:=by kernel_rfl
theorem echk2:(match (expL (fullL 2) (lowR 1)).run ⟨ewk2,0,[],0⟩ with
 | .inr (n,s')=>n.kind==9
 | .inl _=>false)=true:=by kernel_rfl
end Go.Proofs.YtkidoddkbhchkaaGreatDoor
namespace Go.Aw
open Go
theorem Cut.le {l:List UInt8} {k:Nat} (h:Cut l k):k≤l.length:=by
 induction h with
 |zero l=>exact Nat.zero_le _
 |step hne h ih=>have:=Zp hne;rw [List.length_drop] at ih;omega
theorem Cut.blank {l:List UInt8} (hv:Vd l):Cut l (spanR (fun c=>classF c==1) l):=by
 refine Bd.cut (Bd.span _ l) ?_
 rintro ⟨h0,_,h2⟩
 have h2:hdF (l.drop (spanR (fun c=>classF c==1) l))=10:=h2
 have hlt:=Qe (l:=l) (k:=spanR (fun c=>classF c==1) l) (by omega)
 have:=XcC (fun c=>classF c==1) l hlt
 rw [(Zr (by omega) (by omega)).2,h2] at this
 exact absurd this (by decide)
theorem XmG {s:List UInt8} {p:Nat} (e:(noteF s p).2=0) (h0:0<(noteF s p).1):∃n:Nat,0<n∧noteN (s.drop p)=(n:Nat)∧(noteF s p).1=(p+n:Nat):=by
 unfold noteF at e h0 ⊢
 split
 ·rename_i h;rw [if_pos h] at e;exact absurd e (by decide)
 ·rename_i h
  rw [if_neg h] at e h0
  split
  ·rename_i h1;rw [if_pos h1] at h0;exact absurd h0 (by decide)
  ·rename_i h1
   exact ⟨(noteN (s.drop p)).toNat,by omega,by omega,by dsimp only;omega⟩
theorem XfU {s:List UInt8} {p:Nat} (hv:Vd s) (h:Cut s p) (e:(noteF s p).2=0) (h0:0<(noteF s p).1):∃q,(noteF s p).1=(q:Nat)∧p<q∧q≤s.length∧Cut s q:=by
 obtain ⟨n,h1,h2,h3⟩:=XmG e h0
 have hc:=Cut.add h (Cut.note (h.bd.vd hv) h2)
 exact ⟨p+n,h3,by omega,hc.le,hc⟩
theorem num_pos {l:List UInt8} (h:(numF l).1≠0):0<(numF l).2:=by
 unfold numF at h ⊢
 split
 ·dsimp only;omega
 ·rename_i h1
  rw [if_neg h1] at h
  split
  ·rename_i h2;rw [if_pos h2] at h;exact absurd rfl h
  ·dsimp only;omega
theorem XnD {l:List UInt8} (h:(wordF l).1≠0):0<(wordF l).2:=by
 have hge:=Xnd l (plainF l).2 (plainF l).1
 by_cases hp:(plainF l).1=0
 ·unfold wordF at h
  rw [Xgb (fun x=>by rw [hp] at x;rcases x.2.1 with y|y<;>exact absurd y (by decide))] at h
  exact absurd hp h
 ·have:=Xke hp
  unfold wordF;omega
theorem XfG {s:List UInt8} {p:Nat} (hv:Vd s) (h:Cut s p) (e:(lexmF s p).2.2=0):(lexmF s p).1≠0∧∃q,(lexmF s p).2.1=(q:Nat)∧p<q∧q≤s.length∧Cut s q:=by
 have hv':=h.bd.vd hv
 unfold lexmF at e ⊢
 split
 ·rename_i h1
  refine ⟨h1,p+(numF (s.drop p)).2,?_⟩
  have hn:(numF (s.drop p)).1≠0:=fun x=>by
   unfold nscF at h1;rw [if_pos x] at h1;exact h1 rfl
  have hc:=Cut.add h (Cut.num (s.drop p))
  have:=num_pos hn
  refine ⟨?_,by omega,hc.le,hc⟩
  unfold nscF;rw [if_neg hn]
 ·rename_i h1
  rw [if_neg h1] at e
  split
  ·rename_i h2
   rw [if_pos h2] at e
   split
   ·rename_i h3;rw [if_pos h3] at e;exact absurd e (by decide:¬(70:Int)=0)
   ·rename_i h3
    refine ⟨h3,p+(wordF (s.drop p)).2,?_⟩
    have hn:(wordF (s.drop p)).1≠0:=fun x=>by
     unfold wscanF at h3;rw [if_pos x] at h3;exact h3 rfl
    have hc:=Cut.add h (Cut.word (s.drop p))
    have:=XnD hn
    refine ⟨?_,by omega,hc.le,hc⟩
    unfold wscanF;rw [if_neg hn]
  ·rename_i h2
   rw [if_neg h2] at e
   have hk:(quoF s p).1≠0:=fun x=>h2 ⟨x,e⟩
   obtain ⟨n,e1,e2,e3⟩:=Cut.quote hv' hk
   have hc:=Cut.add h e3
   exact ⟨hk,p+n,e1,by omega,hc.le,hc⟩
theorem Cut.blk {s:List UInt8} {p:Nat} (hv:Vd s) (h:Cut s p):Cut s (Go.Proofs.YtkidoddkbhchkaaGreatDoor.blkF s p):=Cut.add h (Cut.blank (h.bd.vd hv))
def ltP (a b:Int×Int):Prop:=a.1<b.1∨(a.1=b.1∧a.2<b.2)
theorem ltP.trans {a b c:Int×Int} (h:ltP a b) (k:ltP b c):ltP a c:=by unfold ltP at *;omega
theorem step_lt {l:List UInt8} {p:Int×Int} (h:1≤p.2):ltP p (stepL l p.1,stepC l p.2):=by
 unfold ltP stepL stepC stopF
 by_cases h1:0<nlF l
 ·rw [if_pos h1];left;dsimp only;omega
 ·rw [if_neg h1,if_neg h1]
  right
  refine ⟨rfl,?_⟩
  dsimp only
  split<;>omega
theorem walk_le {l:List UInt8} {k:Nat} (h:Cut l k) (p:Int×Int) (hp:1≤p.2):(k=0∧walkP l k p=p)∨(0<k∧ltP p (walkP l k p)):=by
 induction h generalizing p with
 |zero l=>exact .inl ⟨rfl,Zy⟩
 |@step l j hne h ih=>
  have h1:=Zp hne
  have h2:=step_lt (l:=l) hp
  refine .inr ⟨by omega,?_⟩
  rw [QV hne (by omega),show stepN l+j - stepN l=j by omega]
  rcases ih (stepL l p.1,stepC l p.2) (Xbj l hp).1 with ⟨_,e⟩|⟨_,e⟩
  ·rw [e];exact h2
  ·exact h2.trans e
theorem Cut.sub {l:List UInt8} {i j:Nat} (h:Cut l i) (k:Cut l j) (hij:i≤j):Cut (l.drop i) (j - i):=by
 induction h generalizing j with
 |zero l=>exact k
 |@step l i hne h ih=>
  cases k with
  |zero=>have:=Zp hne;omega
  |@step _ j' _ k=>
   rw [show stepN l+j' - (stepN l+i)=j' - i by omega,←List.drop_drop]
   exact ih k (by omega)
theorem Ho {s:List UInt8} {p:Nat}:1≤(atP s p).1∧(atP s p).1≤1+s.length∧1≤(atP s p).2∧(atP s p).2≤1+8*s.length:=by
 have:=XeR _ s p (1,1) (Nat.le_refl _) (by decide)
 unfold atP
 omega
theorem at_lt {s:List UInt8} {p q:Nat} (h:Cut s p) (k:Cut s q) (hpq:p<q):ltP (atP s p) (atP s q):=by
 have c:=h.sub k (by omega)
 have e:atP s q=walkP (s.drop p) (q - p) (atP s p):=by
  unfold atP
  rw [←Xgv h,show p+(q - p)=q by omega]
 rw [e]
 rcases walk_le c (atP s p) Ho.2.2.1 with ⟨x,_⟩|⟨_,x⟩
 ·omega
 ·exact x
theorem Xak {s:List UInt8} {a b:Nat} (hv:Vd s) (ha:Cut s a) (hb:Cut s b) (h:a≤b):placeF s a b (atP s a)=atP s b:=XmT hv ha (ha.sub hb h) h hb.le
def ntV (t:List UInt8) (gap wh:Int) (p:Int×Int):List V:=[.str t,.int .i64 gap,.int .i64 wh,.int .i64 p.1,.int .i64 p.2]
theorem Xam {st0 st:St} {w1 w2:Own} {n1:Nat} {o:List (List V)} {g k a b:Int} {t:List UInt8} {K:V→St→Prop} (h:Rows2 st0 st w1 n1 w2 (o.length*5)) (hl:o.length≤1000000000)
 (kk:∀w2' st',Rows2 st0 st' w1 n1 w2' ((o.length+1)*5)→st'.box=st.box→K (.slice 5 (o++[ntV t g k (a,b)]) w2') st'):appendTo 5 48 o w2 [[.str t,.int .i64 g,.int .i64 k,.int .i64 a,.int .i64 b]] st K:=
 VB h.swap rfl (by rw [List.length_singleton];omega) (by rw [List.length_singleton];unfold lim;omega) rfl (by simp) (fun w1' st' hr hb=>kk w1' st' hr.swap hb)
end Go.Aw
namespace Go.Proofs.YtkidoddkbhchkaaGreatDoor
open Go Go.Aw
section
variable {st:St} {R:Res→St→Prop}
attribute [local irreducible] Go.Aw.appendTo
theorem XiZ {s:List UInt8} {b p sp q:Nat} {gap ends:Int} {toks notes:List (List V)} {w1 w2:Own} {j:Bool} (hl:s.length≤100000000) (hv:Vd s) (c1:Cut s sp) (c2:Cut s q) (hsp:sp≤q)
 (hb:st.box b=some (lxC s p sp (atP s sp).1 (atP s sp).2 toks notes w1 w2 gap ends j))
 (h:R (.ret (.tup [.int .i64 (atP s q).1,.int .i64 (atP s q).2])) (st.setBox b (lxC s p q (atP s q).1 (atP s q).2 toks notes w1 w2 gap ends j))):PC 90 [.ptr b 0,.int .i64 q] st R:=by
 have e:placeF s sp q ((atP s sp).1,(atP s sp).2)=atP s q:=Xak hv c1 c2 hsp
 have hc:=Ho (s:=s) (p:=sp)
 refine to_k hl hsp c2.le (by omega) (by omega) hb ?_
 rw [e];exact h
theorem Xnv {st0:St} {s:List UInt8} {b p sp q n2:Nat} {k e0 gap ends:Int} {toks notes:List (List V)} {w1 w2:Own} {j:Bool} (hl:s.length≤50000000) (hv:Vd s) (c1:Cut s sp) (c2:Cut s p) (c3:Cut s q) (hsp:sp≤p) (hpq:p≤q)
 (hg:0≤gap∧gap≤1000000000) (ht:toks.length≤1000000000) (hb0:st0.box b=none) (hR:Rows2 st0 st w1 (toks.length*4) w2 n2) (hb:st.box b=some (lxC s p sp (atP s sp).1 (atP s sp).2 toks notes w1 w2 gap ends j))
 (h:∀w1' st',Rows2 st0 st' w1' ((toks.length+1)*4) w2 n2→st'.box b=some (lxC s q q (atP s q).1 (atP s q).2 (toks++[tokV k (pieceF s p q) (atP s p)]) notes w1' w2
   (if cntF k (pieceF s p q) then gap+1 else gap) (atP s q).1 true)→R (.ret (.tup [])) st'):PC 48 [.ptr b 0,.agg [.int .i64 k,.int .i64 q,.int .i64 e0]] st R:=by
 have e1:placeF s sp p ((atP s sp).1,(atP s sp).2)=atP s p:=Xak hv c1 c2 hsp
 have e2:placeF s p q (atP s p)=atP s q:=Xak hv c2 c3 hpq
 have hc:=Ho (s:=s) (p:=sp)
 refine token_c (by omega) hsp hpq c3.le (by omega) (by omega) hg ht hb0 hR hb (fun w1' st' hr hb'=>h w1' st' hr ?_)
 rw [e1,e2] at hb';exact hb'
set_option maxHeartbeats 4000000 in
theorem note_c {st0:St} {s:List UInt8} {b p sp q n1:Nat} {gap ends:Int} {toks notes:List (List V)} {w1 w2:Own} {j:Bool} (hl:s.length≤50000000) (hv:Vd s) (c1:Cut s sp) (c2:Cut s p) (c3:Cut s q) (hsp:sp≤p) (hpq:p≤q)
 (hg:0≤gap∧gap≤1000000000) (ht:notes.length≤1000000000) (hb0:st0.box b=none) (hR:Rows2 st0 st w1 n1 w2 (notes.length*5)) (hb:st.box b=some (lxC s p sp (atP s sp).1 (atP s sp).2 toks notes w1 w2 gap ends j))
 (h:∀w2' st' sp',Cut s sp'→sp'≤blkF s q→Rows2 st0 st' w1 n1 w2' ((notes.length+1)*5)→
   st'.box b=some (lxC s (blkF s q) sp' (atP s sp').1 (atP s sp').2 toks (notes++[ntV (pieceF s p q) gap (if j&&decide (ends=(atP s p).1)&&decide ((atP s q).1=(atP s p).1) then (if inlF s p q then 1 else 2) else 3) (atP s p)]) w1 w2' gap (atP s q).1
    (j&&decide (ends=(atP s p).1)&&decide ((atP s q).1=(atP s p).1)&&inlF s p q))→R (.ret (.tup [])) st'):PC 46 [.ptr b 0,.int .i64 q] st R:=by
 have c4:=c3.blk hv
 have hq:=c3.le
 have hr:=Ul hq
 have z1:=Ho (s:=s) (p:=p)
 have z2:=Ho (s:=s) (p:=q)
 have z3:=Ho (s:=s) (p:=blkF s q)
 refine XV Xb [] Tryz.func46 rfl (by decide) rfl ?_
 refine Xn (Xl Xb ?_)
 repeat' ((conv=>whnf);first|(with_reducible first|exact Wa|exact Wb|exact Wc|refine Wd (by kernel_rfl) ?_|refine We ?_ ?_ ?_|refine W8 (by decide +kernel) ?_ ?_ ?_|refine W0 (by decide +kernel) ?_ ?_ ?_|refine W9 ?_ ?_ ?_|refine Yb0 ?_|(refine Yb1 ?_ ?_<;>intro _)|refine Wl (fun _=>?_)|refine Wo (by omega) (by omega) ?_|refine Wp (by omega) (by omega) (by omega) ?_|refine Wz (fun _=>?_)|refine WA (fun _=>?_)|refine WE (by omega) (by omega) (by omega) ?_)|refine XiZ (by omega) hv c1 c2 hsp hb ?_|refine Xe hb ?_|with_reducible refine WF ?_)
 refine Xn (Xl Xb ?_)
 repeat' ((conv=>whnf);first|(with_reducible first|exact Wa|exact Wb|exact Wc|refine Wd (by kernel_rfl) ?_|refine We ?_ ?_ ?_|refine W8 (by decide +kernel) ?_ ?_ ?_|refine W0 (by decide +kernel) ?_ ?_ ?_|refine W9 ?_ ?_ ?_|refine Yb0 ?_|(refine Yb1 ?_ ?_<;>intro _)|refine Wl (fun _=>?_)|refine Wo (by omega) (by omega) ?_|refine Wp (by omega) (by omega) (by omega) ?_|refine Wz (fun _=>?_)|refine WA (fun _=>?_)|refine WE (by omega) (by omega) (by omega) ?_)|refine Xex hpq hq ?_|refine Xe (St.Xv _ _ _) ?_|with_reducible refine WF ?_)
 refine Xn (Xl Xb ?_)
 repeat' ((conv=>whnf);first|(with_reducible first|exact Wa|exact Wb|exact Wc|refine Wd (by kernel_rfl) ?_|refine We ?_ ?_ ?_|refine W8 (by decide +kernel) ?_ ?_ ?_|refine W0 (by decide +kernel) ?_ ?_ ?_|refine W9 ?_ ?_ ?_|refine Yb0 ?_|(refine Yb1 ?_ ?_<;>intro _)|refine Wl (fun _=>?_)|refine Wo (by omega) (by omega) ?_|refine Wp (by omega) (by omega) (by omega) ?_|refine Wz (fun _=>?_)|refine WA (fun _=>?_)|refine WE (by omega) (by omega) (by omega) ?_)|refine XiZ (by omega) hv c2 c3 hpq (St.Xv _ _ _) ?_|refine Xe (St.Xv _ _ _) ?_|with_reducible refine WF ?_)
 have hbl:∀{st:St} {R:Res→St→Prop} {sp:Nat} {gap ends:Int} {j:Bool} {notes:List (List V)} {w2:Own},st.box b=some (lxC s q sp (atP s sp).1 (atP s sp).2 toks notes w1 w2 gap ends j)→
  R (.ret (.tup [])) (st.setBox b (lxC s (blkF s q) sp (atP s sp).1 (atP s sp).2 toks notes w1 w2 gap ends j))→PC 44 [.ptr b 0] st R:=fun hb h=>Gl (by omega) hq hb h
 have hcase:(j=false∨(j=true∧¬ends=(atP s p).1)∨(j=true∧ends=(atP s p).1∧¬(atP s q).1=(atP s p).1))∨(j=true∧ends=(atP s p).1∧(atP s q).1=(atP s p).1):=by
  cases j
  ·exact .inl (.inl rfl)
  ·by_cases e1:ends=(atP s p).1
   ·by_cases e2:(atP s q).1=(atP s p).1
    ·exact .inr ⟨rfl,e1,e2⟩
    ·exact .inl (.inr (.inr ⟨rfl,e1,e2⟩))
   ·exact .inl (.inr (.inl ⟨rfl,e1⟩))
 rcases hcase with hc|⟨rfl,he1,he2⟩
 ·have e:(j&&decide (ends=(atP s p).1)&&decide ((atP s q).1=(atP s p).1))=false:=by
   rcases hc with rfl|⟨rfl,e1⟩|⟨rfl,e1,e2⟩<;>simp [*]
  rw [e] at h
  rcases hc with rfl|⟨rfl,e1⟩|⟨rfl,e1,e2⟩
  all_goals refine Xn (Xl Xb ?_)
  repeat' ((conv=>whnf);first|(with_reducible first|exact Wa|exact Wb|exact Wc|refine Wd (by kernel_rfl) ?_|refine We ?_ ?_ ?_|refine W8 (by decide +kernel) ?_ ?_ ?_|refine W0 (by decide +kernel) ?_ ?_ ?_|refine W9 ?_ ?_ ?_|refine Yb0 ?_|(refine Yb1 ?_ ?_<;>intro _)|refine Wl (fun _=>?_)|refine Wo (by omega) (by omega) ?_|refine Wp (by omega) (by omega) (by omega) ?_|refine Wz (fun _=>?_)|refine WA (fun _=>?_)|refine WE (by omega) (by omega) (by omega) ?_)|refine Xe (St.Xv _ _ _) ?_|with_reducible refine WF ?_)
  all_goals refine Xn (Xl Xb ?_)
  repeat' ((conv=>whnf);first|(with_reducible first|exact Wa|exact Wb|exact Wc|refine Wd (by kernel_rfl) ?_|refine We ?_ ?_ ?_|refine W8 (by decide +kernel) ?_ ?_ ?_|refine W0 (by decide +kernel) ?_ ?_ ?_|refine W9 ?_ ?_ ?_|refine Yb0 ?_|(refine Yb1 ?_ ?_<;>intro _)|refine Wl (fun _=>?_)|refine Wo (by omega) (by omega) ?_|refine Wp (by omega) (by omega) (by omega) ?_|refine Wz (fun _=>?_)|refine WA (fun _=>?_)|refine WE (by omega) (by omega) (by omega) ?_)|refine Xe (St.Xv _ _ _) ?_|with_reducible refine WF ?_)
  all_goals refine Xn (Xl Xb ?_)
  repeat' ((conv=>whnf);first|(with_reducible first|exact Wa|exact Wb|exact Wc|refine Wd (by kernel_rfl) ?_|refine We ?_ ?_ ?_|refine W8 (by decide +kernel) ?_ ?_ ?_|refine W0 (by decide +kernel) ?_ ?_ ?_|refine W9 ?_ ?_ ?_|refine Yb0 ?_|(refine Yb1 ?_ ?_<;>intro _)|refine Wl (fun _=>?_)|refine Wo (by omega) (by omega) ?_|refine Wp (by omega) (by omega) (by omega) ?_|refine Wz (fun _=>?_)|refine WA (fun _=>?_)|refine WE (by omega) (by omega) (by omega) ?_)|refine hbl (St.Xv _ _ _) ?_|with_reducible refine WF ?_)
  all_goals refine Xn (Xl Xb ?_)
  repeat' ((conv=>whnf);first|(with_reducible first|exact Wa|exact Wb|exact Wc|refine Wd (by kernel_rfl) ?_|refine We ?_ ?_ ?_|refine W8 (by decide +kernel) ?_ ?_ ?_|refine W0 (by decide +kernel) ?_ ?_ ?_|refine W9 ?_ ?_ ?_|refine Yb0 ?_|(refine Yb1 ?_ ?_<;>intro _)|refine Wl (fun _=>?_)|refine Wo (by omega) (by omega) ?_|refine Wp (by omega) (by omega) (by omega) ?_|refine Wz (fun _=>?_)|refine WA (fun _=>?_)|refine WE (by omega) (by omega) (by omega) ?_)|refine Xe (St.Xv _ _ _) ?_|with_reducible refine WF ?_)
  all_goals refine Xn (Xl Xb ?_)
  repeat' ((conv=>whnf);first|(with_reducible first|exact Wa|exact Wb|exact Wc|refine Wd (by kernel_rfl) ?_|refine We ?_ ?_ ?_|refine W8 (by decide +kernel) ?_ ?_ ?_|refine W0 (by decide +kernel) ?_ ?_ ?_|refine W9 ?_ ?_ ?_|refine Yb0 ?_|(refine Yb1 ?_ ?_<;>intro _)|refine Wl (fun _=>?_)|refine Wo (by omega) (by omega) ?_|refine Wp (by omega) (by omega) (by omega) ?_|refine Wz (fun _=>?_)|refine WA (fun _=>?_)|refine WE (by omega) (by omega) (by omega) ?_)|with_reducible refine WF ?_)
  all_goals refine Xl Xb ?_
  repeat' ((conv=>whnf);first|refine Xk [(0,true),(1,true),(2,true),(3,true),(4,true),(5,true),(6,true),(7,false),(8,true),(9,true),(10,false)] [] (by decide +kernel) ?_|(with_reducible first|exact Wa|exact Wb|exact Wc|refine Wd (by kernel_rfl) ?_|refine We ?_ ?_ ?_|refine W8 (by decide +kernel) ?_ ?_ ?_|refine W0 (by decide +kernel) ?_ ?_ ?_|refine W9 ?_ ?_ ?_|refine Yb0 ?_|(refine Yb1 ?_ ?_<;>intro _)|refine Wl (fun _=>?_)|refine Wo (by omega) (by omega) ?_|refine Wp (by omega) (by omega) (by omega) ?_|refine Wz (fun _=>?_)|refine WA (fun _=>?_)|refine WE (by omega) (by omega) (by omega) ?_)|refine Xe (St.Xv _ _ _) ?_|refine Xam (((((hR.set hb0 _).set hb0 _).set hb0 _).set hb0 _).set hb0 _) ht (fun w1' st1 hr1 hb1=>?_)|refine Xe ((congrFun hb1 b).trans (St.Xv _ _ _)) ?_|with_reducible refine WF ?_)
  all_goals exact fin (h w1' _ q c3 hr.1 (hr1.set hb0 _) (St.Xv _ _ _)) rfl
 ·have e:(true&&decide (ends=(atP s p).1)&&decide ((atP s q).1=(atP s p).1))=true:=by simp [*]
  rw [e] at h
  refine Xn (Xl Xb ?_)
  repeat' ((conv=>whnf);first|(with_reducible first|exact Wa|exact Wb|exact Wc|refine Wd (by kernel_rfl) ?_|refine We ?_ ?_ ?_|refine W8 (by decide +kernel) ?_ ?_ ?_|refine W0 (by decide +kernel) ?_ ?_ ?_|refine W9 ?_ ?_ ?_|refine Yb0 ?_|(refine Yb1 ?_ ?_<;>intro _)|refine Wl (fun _=>?_)|refine Wo (by omega) (by omega) ?_|refine Wp (by omega) (by omega) (by omega) ?_|refine Wz (fun _=>?_)|refine WA (fun _=>?_)|refine WE (by omega) (by omega) (by omega) ?_)|refine Xe (St.Xv _ _ _) ?_|with_reducible refine WF ?_)
  refine Xn (Xl Xb ?_)
  repeat' ((conv=>whnf);first|(with_reducible first|exact Wa|exact Wb|exact Wc|refine Wd (by kernel_rfl) ?_|refine We ?_ ?_ ?_|refine W8 (by decide +kernel) ?_ ?_ ?_|refine W0 (by decide +kernel) ?_ ?_ ?_|refine W9 ?_ ?_ ?_|refine Yb0 ?_|(refine Yb1 ?_ ?_<;>intro _)|refine Wl (fun _=>?_)|refine Wo (by omega) (by omega) ?_|refine Wp (by omega) (by omega) (by omega) ?_|refine Wz (fun _=>?_)|refine WA (fun _=>?_)|refine WE (by omega) (by omega) (by omega) ?_)|refine Xe (St.Xv _ _ _) ?_|with_reducible refine WF ?_)
  refine Xn (Xl Xb ?_)
  repeat' ((conv=>whnf);first|(with_reducible first|exact Wa|exact Wb|exact Wc|refine Wd (by kernel_rfl) ?_|refine We ?_ ?_ ?_|refine W8 (by decide +kernel) ?_ ?_ ?_|refine W0 (by decide +kernel) ?_ ?_ ?_|refine W9 ?_ ?_ ?_|refine Yb0 ?_|(refine Yb1 ?_ ?_<;>intro _)|refine Wl (fun _=>?_)|refine Wo (by omega) (by omega) ?_|refine Wp (by omega) (by omega) (by omega) ?_|refine Wz (fun _=>?_)|refine WA (fun _=>?_)|refine WE (by omega) (by omega) (by omega) ?_)|refine hbl (St.Xv _ _ _) ?_|with_reducible refine WF ?_)
  refine Xn (Xl Xb ?_)
  repeat' ((conv=>whnf);first|(with_reducible first|exact Wa|exact Wb|exact Wc|refine Wd (by kernel_rfl) ?_|refine We ?_ ?_ ?_|refine W8 (by decide +kernel) ?_ ?_ ?_|refine W0 (by decide +kernel) ?_ ?_ ?_|refine W9 ?_ ?_ ?_|refine Yb0 ?_|(refine Yb1 ?_ ?_<;>intro _)|refine Wl (fun _=>?_)|refine Wo (by omega) (by omega) ?_|refine Wp (by omega) (by omega) (by omega) ?_|refine Wz (fun _=>?_)|refine WA (fun _=>?_)|refine WE (by omega) (by omega) (by omega) ?_)|refine Xe (St.Xv _ _ _) ?_|with_reducible refine WF ?_)
  rcases hin:inlF s p q with _|_
  all_goals rw [hin] at h
  ·have hno:¬blkF s q<s.length∨(blkF s q<s.length∧¬(atP s (blkF s q)).1=(atP s p).1):=by
    by_cases h1:blkF s q<s.length
    ·exact .inr ⟨h1,fun x=>by unfold inlF at hin;simp [h1,x] at hin⟩
    ·exact .inl h1
   rcases hno with hno|⟨hy,hno⟩
   all_goals refine Xn (Xl Xb ?_)
   repeat' ((conv=>whnf);first|(with_reducible first|exact Wa|exact Wb|exact Wc|refine Wd (by kernel_rfl) ?_|refine We ?_ ?_ ?_|refine W8 (by decide +kernel) ?_ ?_ ?_|refine W0 (by decide +kernel) ?_ ?_ ?_|refine W9 ?_ ?_ ?_|refine Yb0 ?_|(refine Yb1 ?_ ?_<;>intro _)|refine Wl (fun _=>?_)|refine Wo (by omega) (by omega) ?_|refine Wp (by omega) (by omega) (by omega) ?_|refine Wz (fun _=>?_)|refine WA (fun _=>?_)|refine WE (by omega) (by omega) (by omega) ?_)|refine XiZ (by omega) hv c3 c4 hr.1 (St.Xv _ _ _) ?_|refine Xe (St.Xv _ _ _) ?_|refine WJ (fun _=>?_)|with_reducible refine WF ?_)
   all_goals refine Xl Xb ?_
   repeat' ((conv=>whnf);first|refine Xk [(0,true),(1,true),(2,true),(3,true),(4,true),(5,true),(6,true),(7,false),(8,true),(9,true),(10,false)] [] (by decide +kernel) ?_|(with_reducible first|exact Wa|exact Wb|exact Wc|refine Wd (by kernel_rfl) ?_|refine We ?_ ?_ ?_|refine W8 (by decide +kernel) ?_ ?_ ?_|refine W0 (by decide +kernel) ?_ ?_ ?_|refine W9 ?_ ?_ ?_|refine Yb0 ?_|(refine Yb1 ?_ ?_<;>intro _)|refine Wl (fun _=>?_)|refine Wo (by omega) (by omega) ?_|refine Wp (by omega) (by omega) (by omega) ?_|refine Wz (fun _=>?_)|refine WA (fun _=>?_)|refine WE (by omega) (by omega) (by omega) ?_)|refine Xe (St.Xv _ _ _) ?_|refine Xam ((((((hR.set hb0 _).set hb0 _).set hb0 _).set hb0 _).set hb0 _).set hb0 _) ht (fun w1' st1 hr1 hb1=>?_)|refine Xe ((congrFun hb1 b).trans (St.Xv _ _ _)) ?_|with_reducible refine WF ?_)
   all_goals exact fin (h w1' _ (blkF s q) c4 (Nat.le_refl _) (hr1.set hb0 _) (St.Xv _ _ _)) rfl
  ·have hy:blkF s q<s.length∧(atP s (blkF s q)).1=(atP s p).1:=by unfold inlF at hin;simpa using hin
   obtain ⟨hy1,hy2⟩:=hy
   refine Xn (Xl Xb ?_)
   repeat' ((conv=>whnf);first|(with_reducible first|exact Wa|exact Wb|exact Wc|refine Wd (by kernel_rfl) ?_|refine We ?_ ?_ ?_|refine W8 (by decide +kernel) ?_ ?_ ?_|refine W0 (by decide +kernel) ?_ ?_ ?_|refine W9 ?_ ?_ ?_|refine Yb0 ?_|(refine Yb1 ?_ ?_<;>intro _)|refine Wl (fun _=>?_)|refine Wo (by omega) (by omega) ?_|refine Wp (by omega) (by omega) (by omega) ?_|refine Wz (fun _=>?_)|refine WA (fun _=>?_)|refine WE (by omega) (by omega) (by omega) ?_)|refine XiZ (by omega) hv c3 c4 hr.1 (St.Xv _ _ _) ?_|refine Xe (St.Xv _ _ _) ?_|refine WJ (fun _=>?_)|with_reducible refine WF ?_)
   refine Xl Xb ?_
   repeat' ((conv=>whnf);first|refine Xk [(0,true),(1,true),(2,true),(3,true),(4,true),(5,true),(6,true),(7,false),(8,true),(9,true),(10,false)] [] (by decide +kernel) ?_|(with_reducible first|exact Wa|exact Wb|exact Wc|refine Wd (by kernel_rfl) ?_|refine We ?_ ?_ ?_|refine W8 (by decide +kernel) ?_ ?_ ?_|refine W0 (by decide +kernel) ?_ ?_ ?_|refine W9 ?_ ?_ ?_|refine Yb0 ?_|(refine Yb1 ?_ ?_<;>intro _)|refine Wl (fun _=>?_)|refine Wo (by omega) (by omega) ?_|refine Wp (by omega) (by omega) (by omega) ?_|refine Wz (fun _=>?_)|refine WA (fun _=>?_)|refine WE (by omega) (by omega) (by omega) ?_)|refine Xe (St.Xv _ _ _) ?_|refine Xam (((((((hR.set hb0 _).set hb0 _).set hb0 _).set hb0 _).set hb0 _).set hb0 _).set hb0 _) ht (fun w1' st1 hr1 hb1=>?_)|refine Xe ((congrFun hb1 b).trans (St.Xv _ _ _)) ?_|with_reducible refine WF ?_)
   all_goals exact fin (h w1' _ (blkF s q) c4 (Nat.le_refl _) (hr1.set hb0 _) (St.Xv _ _ _)) rfl
end
end Go.Proofs.YtkidoddkbhchkaaGreatDoor
namespace Go.Aw
open Go
theorem Bd.word {w t:List UInt8} (h:∀b ∈ w,b.toNat<128):Bd (w++t) w.length:=by
 induction w with
 |nil=>exact .zero _
 |cons a w ih=>
  have e:(decR (a::(w++t))).2=1:=by rw [QC (h a List.mem_cons_self)]
  have:=Bd.step (l:=a::(w++t)) (k:=w.length) (by simp) (by rw [e];exact ih (fun b hb=>h b (List.mem_cons_of_mem _ hb)))
  rw [e,Nat.add_comm] at this
  exact this
theorem Xhl (l:List UInt8):0<nlF l↔(hdF l=13∨hdF l=10∨hdF l=12):=by
 rcases ZB l with ⟨e,h⟩|⟨e,h,_⟩|⟨e,h,_⟩
 ·rw [e];exact ⟨fun x=>absurd x (by decide),fun x=>absurd x h⟩
 ·rw [e];exact ⟨fun _=>h,fun _=>by decide⟩
 ·rw [e];exact ⟨fun _=>.inl h,fun _=>by decide⟩
theorem nest_tr {d:Nat} {l r:List UInt8} {m n:Nat} (hm:m≤l.length) (h:nestN d l=some n) (hn:n≤m):nestN d (tr l m r)=some n:=by
 fun_induction nestN d l generalizing m n with
 |case1=>cases h
 |case2 d a l hc ih=>
  obtain ⟨k,hk,rfl⟩:=Option.map_eq_some_iff.1 h
  have h2:=Jq _ _ _ hk
  obtain ⟨m,rfl⟩:∃j,m=j+1:=⟨m - 1,by omega⟩
  have hl:m≤l.length:=by simpa using hm
  show nestN d (a::tr l m r)=_
  rw [nestN,if_pos ⟨hc.1,by rw [VX (by omega) hl];exact hc.2⟩,UE (by omega) hl,ih (by rw [List.length_drop];omega) hk (by omega)]
  rfl
 |case3 d a l hc hk hd=>
  injection h with h
  subst h
  obtain ⟨m,rfl⟩:∃j,m=j+1:=⟨m - 1,by omega⟩
  have hl:m≤l.length:=by simpa using hm
  show nestN d (a::tr l m r)=_
  rw [nestN,if_neg (by rw [VX (by omega) hl];exact hc),if_pos ⟨hk.1,by rw [VX (by omega) hl];exact hk.2⟩,if_pos hd]
 |case4 d a l hc hk hd ih=>
  obtain ⟨k,hk',rfl⟩:=Option.map_eq_some_iff.1 h
  have h2:=Jq _ _ _ hk'
  obtain ⟨m,rfl⟩:∃j,m=j+1:=⟨m - 1,by omega⟩
  have hl:m≤l.length:=by simpa using hm
  show nestN d (a::tr l m r)=_
  rw [nestN,if_neg (by rw [VX (by omega) hl];exact hc),if_pos ⟨hk.1,by rw [VX (by omega) hl];exact hk.2⟩,if_neg hd,UE (by omega) hl,ih (by rw [List.length_drop];omega) hk' (by omega)]
  rfl
 |case5 d a l hc hk ih=>
  obtain ⟨k,hk',rfl⟩:=Option.map_eq_some_iff.1 h
  have h2:=Jq _ _ _ hk'
  obtain ⟨m,rfl⟩:∃j,m=j+1:=⟨m - 1,by omega⟩
  have hl:m≤l.length:=by simpa using hm
  show nestN d (a::tr l m r)=_
  rw [nestN,if_neg (by rw [VX (by omega) hl];exact hc),if_neg (by rw [VX (by omega) hl];exact hk),ih hl hk' (by omega)]
  rfl
def Nlk (r:List UInt8):Prop:=hdF r= -1∨hdF r=10
theorem Nlk.brk {r:List UInt8} (h:Nlk r):Brk r:=by unfold Nlk at h;unfold Brk;omega
theorem eol_tr {l r:List UInt8} {m:Nat} (hr:Nlk r) (hm:m≤l.length) (h:eolN l≤m):eolN (tr l m r)=eolN l:=by
 have e0:eolN r=0:=by
  cases r with
  |nil=>rfl
  |cons a r=>
   unfold Nlk at hr
   have:((a.toNat:Nat):Int)=hdF (a::r):=rfl
   rw [eolN,if_pos ((Xhl _).2 (by omega))]
 induction l generalizing m with
 |nil=>
  have:m=0:=by simpa using hm
  subst this
  rw [Xbl,e0];rfl
 |cons a l ih=>
  cases m with
  |zero=>rw [Xbl,e0];omega
  |succ m=>
   have hl:m≤l.length:=by simpa using hm
   show eolN (a::tr l m r)=_
   have hp:0<nlF (a::tr l m r)↔0<nlF (a::l):=by rw [Xhl,Xhl];exact Iff.rfl
   unfold eolN at h ⊢
   by_cases hc:0<nlF (a::l)
   ·rw [if_pos hc,if_pos (hp.2 hc)]
   ·rw [if_neg hc] at h
    rw [if_neg hc,if_neg (fun x=>hc (hp.1 x)),ih hl (by omega)]
theorem Xkj {l r:List UInt8} {m:Nat} (hr:Nlk r) (hv:Vd l) (hb:Bd l m) (hm:m≤l.length) (h:0<rowLen l) (hn:rowLen l≤m):rowLen (tr l m r)=rowLen l:=by
 unfold rowLen at h hn ⊢
 dsimp only at h hn ⊢
 split at h
 ·rename_i hc
  rw [if_pos hc] at hn ⊢
  have e:spanR (fun c=>classF c==5) (tr l m r)=spanR (fun c=>classF c==5) l:=span_tr hv hb hm (Xnm (p:=fun c=>classF c==5) hr.brk (by decide) (by decide)) (show spanD _ l≤m by show spanR (fun c=>classF c==5) l≤m;omega)
  rw [e,tr_take (by omega) hm,if_pos hc,UE (by omega) hm,eol_tr hr (by rw [List.length_drop];omega) (by omega)]
 ·omega
theorem note_tr {l r:List UInt8} {m n:Nat} (hr:Nlk r) (hv:Vd l) (hb:Bd l m) (hm:m≤l.length) (h0:0<n) (h:noteN l=n) (hn:n≤m):noteN (tr l m r)=n:=by
 unfold noteN at h ⊢
 split at h
 ·rename_i hc
  cases ht:nestN 1 (l.drop 2) with
  |none=>rw [ht] at h;simp only [endAt] at h;omega
  |some k=>
   rw [ht] at h
   simp only [endAt] at h
   have h2:=Jq _ _ _ ht
   rw [VX (by omega) hm,Xnx (by omega) hm,if_pos hc,UE (by omega) hm,nest_tr (by rw [List.length_drop];omega) ht (by omega)]
   simp only [endAt];omega
 ·rename_i hc
  split at h
  ·rename_i hd
   have h:rowLen l=n:=by omega
   rw [VX (by omega) hm,if_neg,if_pos hd,Xkj hr hv hb hm (by omega) (by omega),h]
   rintro ⟨x,_⟩;omega
  ·omega
theorem Xj8 {l:List UInt8} {n:Nat} (hv:Vd l) (h0:0<n) (h:noteN l=n):noteN (l.take n)=(l.take n).length∧(l.take n).length=n:=by
 have hle:=XfT l
 have hc:=Cut.note hv h
 have e:=note_tr (r:=[]) (.inl rfl) hv hc.bd (by omega) h0 h (Nat.le_refl _)
 unfold tr at e
 rw [List.append_nil] at e
 have hl:(l.take n).length=n:=by rw [List.length_take];omega
 rw [hl];exact ⟨e,rfl⟩
end Go.Aw
namespace Go.Proofs.YtkidoddkbhchkaaGreatDoor
open Go Go.Aw
def tkP (t:Tk):Int×Int:=(t.line,t.col)
def ntP (n:Nt):Int×Int:=(n.line,n.col)
def NoteT (t:List UInt8):Prop:=t≠[]∧noteN t=(t.length:Nat)
structure Rise (s:List UInt8) (p:Nat) (x:Lx):Prop where
 t:x.toks.Pairwise fun a b=>ltP (tkP a) (tkP b)
 tp:∀a ∈ x.toks,ltP (tkP a) (atP s p)
 n:x.notes.Pairwise fun a b=>ltP (ntP a) (ntP b)∧a.gap≤b.gap
 np:∀a ∈ x.notes,ltP (ntP a) (atP s p)∧0≤a.gap∧a.gap≤x.gap∧(a.wh=1∨a.wh=2∨a.wh=3)∧NoteT a.text
 g:0≤x.gap∧x.gap≤x.toks.length
theorem XmS {s:List UInt8} {a b:Nat}:pieceF s a b=(s.drop a).take (b - a):=by unfold pieceF;rw [List.drop_take]
theorem Rise.le {s:List UInt8} {p q:Nat} {x:Lx} (h:Rise s p x) (hp:Cut s p) (hq:Cut s q) (hpq:p<q):Rise s q x:=
 have l:=at_lt hp hq hpq
 ⟨h.t,fun a ha=>(h.tp a ha).trans l,h.n,fun a ha=>⟨(h.np a ha).1.trans l,(h.np a ha).2⟩,h.g⟩
theorem Rise.tok {s:List UInt8} {p q:Nat} {k:Int} {x:Lx} (h:Rise s p x) (hp:Cut s p) (hq:Cut s q) (hpq:p<q):Rise s q (tokX s p q k x):=by
 have h':=h.le hp hq hpq
 have hg:=h.g
 have hgg:x.gap≤(tokX s p q k x).gap∧(tokX s p q k x).gap≤x.gap+1:=by
  show x.gap≤(if cntF k (pieceF s p q) then x.gap+1 else x.gap)∧(if cntF k (pieceF s p q) then x.gap+1 else x.gap)≤x.gap+1
  split<;>omega
 refine ⟨?_,?_,h.n,fun a ha=>?_,?_⟩
 ·refine List.pairwise_append.2 ⟨h.t,List.pairwise_singleton _ _,fun a ha b hb=>?_⟩
  rw [List.mem_singleton] at hb;subst hb
  exact h.tp a ha
 ·intro a ha
  rcases List.mem_append.1 ha with ha|ha
  ·exact h'.tp a ha
  ·rw [List.mem_singleton] at ha;subst ha
   exact at_lt hp hq hpq
 ·have:=h'.np a ha
  exact ⟨this.1,this.2.1,by omega,this.2.2.2⟩
 ·have:(tokX s p q k x).toks.length=x.toks.length+1:=by simp [tokX]
  omega
theorem Rise.note {s:List UInt8} {p q:Nat} {x:Lx} (hv:Vd s) (h:Rise s p x) (hp:Cut s p) (hq:Cut s q) (hpq:p<q) (hn:noteN (s.drop p)=(q - p:Nat)):Rise s q (noteX s p q x):=by
 have h':=h.le hp hq hpq
 have hg:=h.g
 refine ⟨h.t,h'.tp,?_,?_,h.g⟩
 ·refine List.pairwise_append.2 ⟨h.n,List.pairwise_singleton _ _,fun a ha b hb=>?_⟩
  rw [List.mem_singleton] at hb;subst hb
  exact ⟨(h.np a ha).1,(h.np a ha).2.2.1⟩
 ·intro a ha
  rcases List.mem_append.1 ha with ha|ha
  ·exact h'.np a ha
  ·rw [List.mem_singleton] at ha;subst ha
   refine ⟨at_lt hp hq hpq,hg.1,Int.le_refl _,?_,?_⟩
   ·show (if behF s p q x then (if inlF s p q then (1:Int) else 2) else 3)=1∨(if behF s p q x then (if inlF s p q then (1:Int) else 2) else 3)=2∨(if behF s p q x then (if inlF s p q then (1:Int) else 2) else 3)=3
    split
    ·split
     ·exact .inl rfl
     ·exact .inr (.inl rfl)
    ·exact .inr (.inr rfl)
   ·show NoteT (pieceF s p q)
    rw [XmS]
    have e:=Xj8 (hp.bd.vd hv) (by omega) hn
    refine ⟨fun e0=>?_,e.1⟩
    rw [e0] at e
    have:=e.2
    simp only [List.length_nil] at this;omega
theorem Rise.blk {s:List UInt8} {p:Nat} {x:Lx} (hv:Vd s) (h:Rise s p x) (hp:Cut s p):Rise s (blkF s p) x:=by
 by_cases e:p=blkF s p
 ·rw [←e];exact h
 ·exact h.le hp (hp.blk hv) (by have:=(Ul hp.le).1;omega)
end Go.Proofs.YtkidoddkbhchkaaGreatDoor
namespace Go.Aw
open Go
def blkN (l:List UInt8):Nat:=spanR (fun c=>classF c==1) l
def bdr (l:List UInt8):List UInt8:=l.drop (blkN l)
def Cl (l:List UInt8):Prop:=spanD (fun d=> !(classF (d.1:Nat)==0)) l=l.length
theorem XgC {p:Nat×Nat→Bool} {l:List UInt8} {k:Nat} (hv:Vd l) (hb:Bd l k) (hk:k≤l.length) (h:spanD p l=l.length):spanD p (l.take k)=(l.take k).length∧spanD p (l.drop k)=(l.drop k).length:=by
 have e:l.take k=tr l k []:=by unfold tr;rw [List.append_nil]
 rw [e]
 induction hb with
 |zero l=>exact ⟨by rw [Xbl,Ze];rfl,h⟩
 |@step l k hne hb ih=>
  have hd:=Xli (r:=[]) hv (by have:=QI l;omega) hk (.step hne hb)
  have hl:=ZV hne
  have hp:=QI l
  have hc:p (decR l)=true:=by
   cases hc:p (decR l) with
   |true=>rfl
   |false=>rw [Zo hc] at h;have:=List.length_pos_iff.2 hne;omega
  have hne':tr l ((decR l).2+k) []≠[]:=fun e=>by
   have:=congrArg List.length e
   rw [XeL hk] at this;simp only [List.length_nil] at this;omega
  rw [Qj hne hc] at h
  have ih:=ih (hv.rune hne).2 (by rw [List.length_drop];omega) (by rw [List.length_drop];omega) (by unfold tr;rw [List.append_nil])
  rw [Qj hne' (by rw [hd.1];exact hc),hd.1,UE (by omega) hk,show (decR l).2+k - (decR l).2=k by omega,ih.1]
  rw [List.drop_drop] at ih
  refine ⟨?_,ih.2⟩
  rw [XeL hk,XeL (by rw [List.length_drop];omega)]
  simp only [List.length_nil];omega
theorem Vd.take {l:List UInt8} {k:Nat} (hv:Vd l) (hb:Bd l k) (hk:k≤l.length):Vd (l.take k):=(XgC (p:=goodD) hv hb hk hv).1
theorem Cl.take {l:List UInt8} {k:Nat} (h:Cl l) (hv:Vd l) (hb:Bd l k) (hk:k≤l.length):Cl (l.take k):=(XgC hv hb hk h).1
theorem Cl.drop {l:List UInt8} {k:Nat} (h:Cl l) (hv:Vd l) (hb:Bd l k) (hk:k≤l.length):Cl (l.drop k):=(XgC hv hb hk h).2
theorem Cl.app {l t:List UInt8} (h:Cl l) (hv:Vd l) (k:Cl t):Cl (l++t):=by
 unfold Cl at *
 rw [Xdz l t hv,if_pos h,k,List.length_append]
theorem bdr_bdr (l:List UInt8):blkN (bdr l)=0:=by
 by_cases h:blkN l<l.length
 ·have:=XcC (fun c=>classF c==1) l h
  exact XcB this
 ·have:bdr l=[]:=List.drop_eq_nil_iff.2 (by omega)
  rw [this];exact XdA _
theorem Vd.sp:Vd [32]:=by unfold Vd;rw [Qj (by simp) (by decide)];rw [show (([32]:List UInt8).drop (decR [32]).2)=[] from by rw [QC (by decide)];rfl,Ze,QC (by decide)];rfl
theorem Vd.nl:Vd [10]:=by unfold Vd;rw [Qj (by simp) (by decide)];rw [show (([10]:List UInt8).drop (decR [10]).2)=[] from by rw [QC (by decide)];rfl,Ze,QC (by decide)];rfl
theorem Cl.sp:Cl [32]:=by unfold Cl;rw [Qj (by simp) (by decide)];rw [show (([32]:List UInt8).drop (decR [32]).2)=[] from by rw [QC (by decide)];rfl,Ze,QC (by decide)];rfl
theorem Cl.nl:Cl [10]:=by unfold Cl;rw [Qj (by simp) (by decide)];rw [show (([10]:List UInt8).drop (decR [10]).2)=[] from by rw [QC (by decide)];rfl,Ze,QC (by decide)];rfl
end Go.Aw
namespace Go.Proofs.YtkidoddkbhchkaaGreatDoor
open Go Go.Aw
def kts (l:List Tk):List (Int×List UInt8):=l.map fun t=>(t.kind,t.text)
def LexIs (is:Option (List (Int×List UInt8))) (x:Lx) (r:Sum (Int×Int) Lx):Prop:=match is with
 |none=>∃e,r=.inl e
 |some is=>∃y,r=.inr y∧kts y.toks=kts x.toks++is.filter (fun t=>t.1 !=0)∧y.notes.map (·.text)=x.notes.map (·.text)++(is.filter (fun t=>t.1==0)).map (·.2)
theorem LexIs.tok {o:Option (List (Int×List UInt8))} {s:List UInt8} {p q:Nat} {k:Int} {x:Lx} {r:Sum (Int×Int) Lx} (h:LexIs o (tokX s p q k x) r) (hk:k≠0) {t:List UInt8} (ht:t=pieceF s p q):LexIs (o.map ((k,t)::·)) x r:=by
 subst ht
 cases o with
 |none=>exact h
 |some is=>
  obtain ⟨y,h1,h2,h3⟩:=h
  refine ⟨y,h1,?_,?_⟩
  ·have hf:(((k,pieceF s p q)::is).filter fun t:Int×List UInt8=>t.1 !=0)=(k,pieceF s p q)::is.filter fun t=>t.1 !=0:=List.filter_cons_of_pos (by simpa using hk)
   rw [hf,h2]
   simp [kts,tokX]
  ·have hf:(((k,pieceF s p q)::is).filter fun t:Int×List UInt8=>t.1==0)=is.filter fun t=>t.1==0:=List.filter_cons_of_neg (by simpa using hk)
   rw [hf,h3];rfl
theorem LexIs.note {o:Option (List (Int×List UInt8))} {s:List UInt8} {p q:Nat} {x:Lx} {r:Sum (Int×Int) Lx} (h:LexIs o (noteX s p q x) r) {t:List UInt8} (ht:t=pieceF s p q):LexIs (o.map ((0,t)::·)) x r:=by
 subst ht
 cases o with
 |none=>exact h
 |some is=>
  obtain ⟨y,h1,h2,h3⟩:=h
  refine ⟨y,h1,?_,?_⟩
  ·have hf:(((0,pieceF s p q)::is).filter fun t:Int×List UInt8=>t.1 !=0)=is.filter fun t=>t.1 !=0:=List.filter_cons_of_neg (by simp)
   rw [hf,h2];rfl
  ·have hf:(((0,pieceF s p q)::is).filter fun t:Int×List UInt8=>t.1==0)=(0,pieceF s p q)::is.filter fun t=>t.1==0:=List.filter_cons_of_pos (by simp)
   rw [hf,h3]
   simp [noteX]
def Okt (s:List UInt8):Prop:=s.length≤16777216∧Vd s∧Cl s
theorem lexF_ok {s:List UInt8} {y:Lx} (h:lexF s=.inr y):Okt s:=by
 unfold lexF at h
 split at h
 ·cases h
 ·split at h
  ·cases h
  ·rename_i h1 h2
   split at h
   ·cases h
   ·rename_i h3
    refine ⟨by omega,Xlf (by omega),?_⟩
    unfold idxF at h3
    have hle:=GZ (fun d=> !((fun c:Nat=>classF (c:Nat)==0) d.1)) s
    split at h3
    ·omega
    ·show spanD (fun d=> !((fun c:Nat=>classF (c:Nat)==0) d.1)) s=_
     omega
theorem Xmm {s:List UInt8} {p:Nat} {x:Lx} (h:¬p<s.length):lexL s p x=.inr x:=by rw [lexL,dif_neg h]
theorem Xml {s:List UInt8} {p:Nat} {x:Lx} (h:p<s.length) (h1:(noteF s p).2≠0):lexL s p x=.inl ((p:Nat),(noteF s p).2):=by rw [lexL,dif_pos h,if_pos h1]
theorem XjX {s:List UInt8} {p q:Nat} {x:Lx} (h:p<s.length) (h1:(noteF s p).2=0) (h2:(noteF s p).1=(q:Nat)) (h3:p<q):lexL s p x=lexL s (blkF s q) (noteX s p q x):=by
 rw [lexL,dif_pos h,if_neg (fun e=>e h1),if_pos (by omega),h2,Int.toNat_natCast,dif_pos h3]
theorem Xmn {s:List UInt8} {p:Nat} {x:Lx} (h:p<s.length) (h1:(noteF s p).2=0) (h2:¬0<(noteF s p).1) (h3:(lexmF s p).2.2≠0):lexL s p x=.inl ((lexmF s p).2.1,(lexmF s p).2.2):=by
 rw [lexL,dif_pos h,if_neg (fun e=>e h1),if_neg h2,if_pos h3]
theorem Xmp {s:List UInt8} {p q:Nat} {x:Lx} (h:p<s.length) (h1:(noteF s p).2=0) (h2:¬0<(noteF s p).1) (h3:(lexmF s p).2.2=0) (h4:(lexmF s p).2.1=(q:Nat)) (h5:p<q):lexL s p x=lexL s (blkF s q) (tokX s p q (lexmF s p).1 x):=by
 rw [lexL,dif_pos h,if_neg (fun e=>e h1),if_neg h2,if_neg (fun e=>e h3),h4,Int.toNat_natCast,dif_pos h5]
structure LW where
 p:Nat
 sp:Nat
 x:Lx
 w1:Own
 w2:Own
 m:St
theorem XkG (l:List Tk) (t:Tk):encTs (l++[t])=encTs l++[t.cells]:=by simp [encTs]
theorem Xhm (l:List Nt) (t:Nt):encNs (l++[t])=encNs l++[t.cells]:=by simp [encNs]
theorem Uv (l:List Nt):(encNs l).length=l.length:=by simp [encNs]
theorem blk_blk (s:List UInt8) (p:Nat):blkF s (blkF s p)=blkF s p:=by
 have h:=bdr_bdr (s.drop p)
 have e:bdr (s.drop p)=s.drop (blkF s p):=by unfold bdr;rw [List.drop_drop];rfl
 rw [e] at h
 exact Nat.add_eq_left.2 h
section
variable {st:St} {R:Res→St→Prop}
attribute [local irreducible] Go.Aw.appendTo
theorem XfF (c:Nat) (hc:c≤1114111):PC 42 [.int .i32 (c:Int)] noSt fun r _=>r=.ret (.bool (classF (c:Int)==0)):=by
 refine Xa Xb [] Tryz.func42 rfl (by decide) ?_
 repeat' ((conv=>whnf);first|(with_reducible first|refine Yb0 ?_|(refine Yb1 ?_ ?_<;>intro _))|refine Vn ?_)
 all_goals first|exact Xq rfl (by simp [*])|(conv=>whnf;simp [*])
set_option maxHeartbeats 8000000 in
theorem lex_c {s:List UInt8} (h1:∀i e,lexF s=.inl (i,e)→R (.ret (.tup [.slice 4 [] .full,.slice 5 [] .full,.int .i64 i,.int .i64 e])) st)
 (h1':∀i e st',st.le st'→lexF s=.inl (i,e)→R (.ret (.tup [.slice 4 [] .full,.slice 5 [] .full,.int .i64 i,.int .i64 e])) st')
 (h2:∀x w1 w2 st',lexF s=.inr x→st.le st'→R (.ret (.tup [.slice 4 (encTs x.toks) w1,.slice 5 (encNs x.notes) w2,.int .i64 0,.int .i64 0])) st'):PC 13 [.str s] st R:=by
 refine XV Xb [30] Tryz.func13 rfl (by decide) rfl ?_
 by_cases hl:16777216<s.length
 ·have e:lexF s=.inl (0,3):=by unfold lexF;rw [if_pos hl]
  refine Xl Xb ?_
  repeat' ((conv=>whnf);first|(with_reducible first|exact Wa|exact Wb|exact Wc|refine Wd (by kernel_rfl) ?_|refine We ?_ ?_ ?_|refine W8 (by decide +kernel) ?_ ?_ ?_|refine W0 (by decide +kernel) ?_ ?_ ?_|refine W9 ?_ ?_ ?_|refine Yb0 ?_|(refine Yb1 ?_ ?_<;>intro _)|refine Wl (fun _=>?_)|refine Wx (fun _=>?_) ?_|refine Wy (fun _=>?_) ?_|refine Wz (fun _=>?_)|refine WA (fun _=>?_))|refine WJ (fun _=>?_)|with_reducible refine WF ?_)
  exact fin (h1 _ _ e) rfl
 ·by_cases hk:(chkF s).2=0
  ·by_cases hx:0≤idxF (fun c=>classF (c:Nat)==0) s
   ·have e:lexF s=.inl (idxF (fun c=>classF (c:Nat)==0) s,70):=by unfold lexF;rw [if_neg hl,if_neg (fun x=>x hk),if_pos hx]
    refine Xl Xb ?_
    repeat' ((conv=>whnf);first|(with_reducible first|exact Wa|exact Wb|exact Wc|refine Wd (by kernel_rfl) ?_|refine We ?_ ?_ ?_|refine W8 (by decide +kernel) ?_ ?_ ?_|refine W0 (by decide +kernel) ?_ ?_ ?_|refine W9 ?_ ?_ ?_|refine Yb0 ?_|(refine Yb1 ?_ ?_<;>intro _)|refine Wl (fun _=>?_)|refine Wx (fun _=>?_) ?_|refine Wy (fun _=>?_) ?_|refine Wz (fun _=>?_)|refine WA (fun _=>?_))|refine WJ (fun _=>?_)|refine XdN ?_|refine Xiv (p:=fun c=>classF (c:Nat)==0) XfF ?_|with_reducible refine WF ?_)
    exact fin (h1 _ _ e) rfl
   ·have e:lexF s=lexL s (blkF s 0) lx0:=by unfold lexF;rw [if_neg hl,if_neg (fun x=>x hk),if_neg hx]
    have hv:=Xlf hk
    refine Xn (Xl Xb ?_)
    repeat' ((conv=>whnf);first|(with_reducible first|exact Wa|exact Wb|exact Wc|refine Wd (by kernel_rfl) ?_|refine We ?_ ?_ ?_|refine W8 (by decide +kernel) ?_ ?_ ?_|refine W0 (by decide +kernel) ?_ ?_ ?_|refine W9 ?_ ?_ ?_|refine Yb0 ?_|(refine Yb1 ?_ ?_<;>intro _)|refine Wl (fun _=>?_)|refine Wx (fun _=>?_) ?_|refine Wy (fun _=>?_) ?_|refine Wz (fun _=>?_)|refine WA (fun _=>?_))|with_reducible refine WF ?_)
    refine Xn (Xl Xb ?_)
    repeat' ((conv=>whnf);first|(with_reducible first|exact Wa|exact Wb|exact Wc|refine Wd (by kernel_rfl) ?_|refine We ?_ ?_ ?_|refine W8 (by decide +kernel) ?_ ?_ ?_|refine W0 (by decide +kernel) ?_ ?_ ?_|refine W9 ?_ ?_ ?_|refine Yb0 ?_|(refine Yb1 ?_ ?_<;>intro _)|refine Wl (fun _=>?_)|refine Wx (fun _=>?_) ?_|refine Wy (fun _=>?_) ?_|refine Wz (fun _=>?_)|refine WA (fun _=>?_))|refine WJ (fun _=>?_)|with_reducible refine WF ?_)
    refine Xn (Xl Xb ?_)
    repeat' ((conv=>whnf);first|(with_reducible first|exact Wa|exact Wb|exact Wc|refine Wd (by kernel_rfl) ?_|refine We ?_ ?_ ?_|refine W8 (by decide +kernel) ?_ ?_ ?_|refine W0 (by decide +kernel) ?_ ?_ ?_|refine W9 ?_ ?_ ?_|refine Yb0 ?_|(refine Yb1 ?_ ?_<;>intro _)|refine Wl (fun _=>?_)|refine Wx (fun _=>?_) ?_|refine Wy (fun _=>?_) ?_|refine Wz (fun _=>?_)|refine WA (fun _=>?_))|refine XdN ?_|with_reducible refine WF ?_)
    refine Xn (Xl Xb ?_)
    repeat' ((conv=>whnf);first|(with_reducible first|exact Wa|exact Wb|exact Wc|refine Wd (by kernel_rfl) ?_|refine We ?_ ?_ ?_|refine W8 (by decide +kernel) ?_ ?_ ?_|refine W0 (by decide +kernel) ?_ ?_ ?_|refine W9 ?_ ?_ ?_|refine Yb0 ?_|(refine Yb1 ?_ ?_<;>intro _)|refine Wl (fun _=>?_)|refine Wx (fun _=>?_) ?_|refine Wy (fun _=>?_) ?_|refine Wz (fun _=>?_)|refine WA (fun _=>?_))|refine Xiv (p:=fun c=>classF (c:Nat)==0) XfF ?_|with_reducible refine WF ?_)
    refine Xn (Xl Xb ?_)
    repeat' ((conv=>whnf);first|(with_reducible first|exact Wa|exact Wb|exact Wc|refine Wd (by kernel_rfl) ?_|refine We ?_ ?_ ?_|refine W8 (by decide +kernel) ?_ ?_ ?_|refine W0 (by decide +kernel) ?_ ?_ ?_|refine W9 ?_ ?_ ?_|refine Yb0 ?_|(refine Yb1 ?_ ?_<;>intro _)|refine Wl (fun _=>?_)|refine Wx (fun _=>?_) ?_|refine Wy (fun _=>?_) ?_|refine Wz (fun _=>?_)|refine WA (fun _=>?_))|refine XdK (fun b fb=>?_)|with_reducible refine WF ?_)
    have hb0:=fb.1
    have hq0:=Ul (s:=s) (p:=0) (by omega)
    refine Xl Xb ?_
    repeat' ((conv=>whnf);first|(with_reducible first|exact Wa|exact Wb|exact Wc|refine Wd (by kernel_rfl) ?_|refine We ?_ ?_ ?_|refine W8 (by decide +kernel) ?_ ?_ ?_|refine W0 (by decide +kernel) ?_ ?_ ?_|refine W9 ?_ ?_ ?_|refine Yb0 ?_|(refine Yb1 ?_ ?_<;>intro _)|refine Wl (fun _=>?_)|refine Wx (fun _=>?_) ?_|refine Wy (fun _=>?_) ?_|refine Wz (fun _=>?_)|refine WA (fun _=>?_))|refine Gl (p:=0) (by omega) (by omega) (St.Xv _ _ _) ?_|with_reducible refine WF ?_)
    refine Xeh (α:=LW) (fun _=>[]) [0,6] [] (fun y=>y.m) (fun y=>y.m.box b=some (lxC s y.p y.sp (atP s y.sp).1 (atP s y.sp).2 (encTs y.x.toks) (encNs y.x.notes) y.w1 y.w2 y.x.gap y.x.ends y.x.j)∧Rows2 st y.m y.w1 (y.x.toks.length*4) y.w2 (y.x.notes.length*5)∧
     Cut s y.sp∧Cut s y.p∧y.sp≤y.p∧0≤y.x.gap∧y.x.gap≤y.p∧y.x.toks.length≤y.p∧y.x.notes.length≤y.p∧lexL s (blkF s 0) lx0=lexL s y.p y.x)
     (fun y=>s.length - y.p) ⟨blkF s 0,0,lx0,.full,.full,_⟩ ⟨?_,⟨trivial,trivial,trivial,trivial,trivial,St.Xg (St.Xg (St.le_refl _) hb0 _) hb0 _⟩,.zero s,Cut.blk hv (.zero s),by simp only [];omega,Int.le_refl _,by simp only [lx0];omega,Nat.zero_le _,Nat.zero_le _,rfl⟩ Yl (St.le_refl _) ?_
    ·have e0:atP s 0=(1,1):=Zy
     dsimp only
     rw [e0]
     exact St.Xv _ _ _
    rintro ⟨p,sp,x,w1,w2,m⟩ ⟨j1,j2,j3,j4,j5,j6,j7,j8,j9,j10⟩
    dsimp only at j1 j2 j3 j4 j5 j6 j7 j8 j9 j10 ⊢
    have hp:=j4.le
    by_cases hpl:p<s.length
    ·have hns:=fun {R:Res→St→Prop}=>noteX_c (st:=m) (R:=R) (s:=s) (pos:=p) (by omega) hpl
     by_cases n2:(noteF s p).2=0
     ·rw [n2] at hns
      by_cases n1:0<(noteF s p).1
      ·obtain ⟨q,e1,e2,e3,e4⟩:=XfU hv j4 n2 n1
       rw [e1] at hns
       rw [XjX hpl n2 e1 e2] at j10
       have hq:=Ul e3
       have hnt:=fun {R:Res→St→Prop}=>note_c (st:=m) (R:=R) (st0:=st) (by omega) hv j3 j4 e4 j5 (by omega) ⟨j6,by omega⟩ (by rw [Uv];omega) hb0 (by rw [Uv];exact j2) j1
       repeat' ((conv=>whnf);first|(with_reducible first|exact Wa|exact Wb|exact Wc|refine Wd (by kernel_rfl) ?_|refine We ?_ ?_ ?_|refine W8 (by decide +kernel) ?_ ?_ ?_|refine W0 (by decide +kernel) ?_ ?_ ?_|refine W9 ?_ ?_ ?_|refine Yb0 ?_|(refine Yb1 ?_ ?_<;>intro _)|refine Wl (fun _=>?_)|refine Wx (fun _=>?_) ?_|refine Wy (fun _=>?_) ?_|refine Wz (fun _=>?_)|refine WA (fun _=>?_))|refine hns ?_|refine Xe j1 ?_|refine WJ (fun _=>?_)|refine hnt (fun v2 st' sp' c' hs' hR hB=>?_)|refine Gl (p:=blkF s q) (by omega) (by omega) hB ?_|with_reducible refine WF ?_)
       all_goals conv=>whnf
       have eb:=blk_blk s q
       refine ⟨⟨blkF s q,sp',noteX s p q x,w1,v2,_⟩,⟨?_,?_,c',e4.blk hv,hs',j6,by show x.gap≤_;simp only [];omega,by show x.toks.length≤_;simp only [];omega,by show (x.notes++[_]).length≤_;rw [List.length_append,List.length_singleton];simp only [];omega,j10⟩,by simp only [];omega,Yl,St.le_refl _⟩
       ·refine (St.Xv _ _ _).trans ?_
        show _=some (lxC s (blkF s q) sp' _ _ (encTs x.toks) (encNs (x.notes++[_])) w1 v2 x.gap (atP s q).1 _)
        rw [Xhm]
        exact congrArg (fun z=>some (lxC s z sp' _ _ _ _ _ _ _ _ _)) eb
       ·show Rows2 st _ w1 (x.toks.length*4) v2 ((x.notes++[_]).length*5)
        rw [List.length_append,List.length_singleton]
        rw [Uv] at hR
        exact hR.set hb0 _
      ·have hlx:=fun {R:Res→St→Prop}=>Xmq (st:=m) (R:=R) (by omega) hpl j1
       by_cases k2:(lexmF s p).2.2=0
       ·obtain ⟨k1,q,e1,e2,e3,e4⟩:=XfG hv j4 k2
        rw [k2,e1] at hlx
        rw [Xmp hpl n2 n1 k2 e1 e2] at j10
        have hq:=Ul e3
        have htk:=fun {R:Res→St→Prop}=>Xnv (st:=m) (R:=R) (st0:=st) (k:=(lexmF s p).1) (e0:=0) (by omega) hv j3 j4 e4 j5 (by omega) ⟨j6,by omega⟩ (by rw [Jc];omega) hb0 (by rw [Jc];exact j2) j1
        repeat' ((conv=>whnf);first|(with_reducible first|exact Wa|exact Wb|exact Wc|refine Wd (by kernel_rfl) ?_|refine We ?_ ?_ ?_|refine W8 (by decide +kernel) ?_ ?_ ?_|refine W0 (by decide +kernel) ?_ ?_ ?_|refine W9 ?_ ?_ ?_|refine Yb0 ?_|(refine Yb1 ?_ ?_<;>intro _)|refine Wl (fun _=>?_)|refine Wx (fun _=>?_) ?_|refine Wy (fun _=>?_) ?_|refine Wz (fun _=>?_)|refine WA (fun _=>?_))|refine hns ?_|refine Xe j1 ?_|refine WJ (fun _=>?_)|refine hlx ?_|refine htk (fun v1 st' hR hB=>?_)|refine Gl (p:=q) (by omega) e3 hB ?_|with_reducible refine WF ?_)
        all_goals conv=>whnf
        have hgap:(tokX s p q (lexmF s p).1 x).gap=x.gap∨(tokX s p q (lexmF s p).1 x).gap=x.gap+1:=by
         show (if cntF (lexmF s p).1 (pieceF s p q) then x.gap+1 else x.gap)=_∨(if cntF (lexmF s p).1 (pieceF s p q) then x.gap+1 else x.gap)=_
         split
         ·exact .inr rfl
         ·exact .inl rfl
        refine ⟨⟨blkF s q,q,tokX s p q (lexmF s p).1 x,v1,w2,_⟩,⟨?_,?_,e4,e4.blk hv,hq.1,by simp only [];omega,by simp only [];omega,by show (x.toks++[_]).length≤_;rw [List.length_append,List.length_singleton];simp only [];omega,by show x.notes.length≤_;simp only [];omega,j10⟩,by simp only [];omega,Yl,St.le_refl _⟩
        ·refine (St.Xv _ _ _).trans ?_
         show _=some (lxC s (blkF s q) q _ _ (encTs (x.toks++[_])) (encNs x.notes) v1 w2 _ (atP s q).1 true)
         rw [XkG]
         rfl
        ·show Rows2 st _ v1 ((x.toks++[_]).length*4) w2 (x.notes.length*5)
         rw [List.length_append,List.length_singleton]
         rw [Jc] at hR
         exact hR.set hb0 _
       ·rw [Xmn hpl n2 n1 k2] at j10
        repeat' ((conv=>whnf);first|(with_reducible first|exact Wa|exact Wb|exact Wc|refine Wd (by kernel_rfl) ?_|refine We ?_ ?_ ?_|refine W8 (by decide +kernel) ?_ ?_ ?_|refine W0 (by decide +kernel) ?_ ?_ ?_|refine W9 ?_ ?_ ?_|refine Yb0 ?_|(refine Yb1 ?_ ?_<;>intro _)|refine Wl (fun _=>?_)|refine Wx (fun _=>?_) ?_|refine Wy (fun _=>?_) ?_|refine Wz (fun _=>?_)|refine WA (fun _=>?_))|refine hns ?_|refine Xe j1 ?_|refine WJ (fun _=>?_)|refine hlx ?_|with_reducible refine WF ?_)
        exact fin (h1' _ _ _ j2.le (e.trans j10)) rfl
     ·rw [Xml hpl n2] at j10
      repeat' ((conv=>whnf);first|(with_reducible first|exact Wa|exact Wb|exact Wc|refine Wd (by kernel_rfl) ?_|refine We ?_ ?_ ?_|refine W8 (by decide +kernel) ?_ ?_ ?_|refine W0 (by decide +kernel) ?_ ?_ ?_|refine W9 ?_ ?_ ?_|refine Yb0 ?_|(refine Yb1 ?_ ?_<;>intro _)|refine Wl (fun _=>?_)|refine Wx (fun _=>?_) ?_|refine Wy (fun _=>?_) ?_|refine Wz (fun _=>?_)|refine WA (fun _=>?_))|refine hns ?_|refine Xe j1 ?_|refine WJ (fun _=>?_)|with_reducible refine WF ?_)
      exact fin (h1' _ _ _ j2.le (e.trans j10)) rfl
    ·rw [Xmm hpl] at j10
     repeat' ((conv=>whnf);first|(with_reducible first|exact Wa|exact Wb|exact Wc|refine Wd (by kernel_rfl) ?_|refine We ?_ ?_ ?_|refine W8 (by decide +kernel) ?_ ?_ ?_|refine W0 (by decide +kernel) ?_ ?_ ?_|refine W9 ?_ ?_ ?_|refine Yb0 ?_|(refine Yb1 ?_ ?_<;>intro _)|refine Wl (fun _=>?_)|refine Wx (fun _=>?_) ?_|refine Wy (fun _=>?_) ?_|refine Wz (fun _=>?_)|refine WA (fun _=>?_))|refine Xe j1 ?_|refine WJ (fun _=>?_)|with_reducible refine WF ?_)
     exact fin (h2 x w1 w2 m (e.trans j10) j2.le) rfl
  ·have e:lexF s=.inl ((chkF s).1,(chkF s).2):=by unfold lexF;rw [if_neg hl,if_pos hk]
   refine Xl Xb ?_
   repeat' ((conv=>whnf);first|(with_reducible first|exact Wa|exact Wb|exact Wc|refine Wd (by kernel_rfl) ?_|refine We ?_ ?_ ?_|refine W8 (by decide +kernel) ?_ ?_ ?_|refine W0 (by decide +kernel) ?_ ?_ ?_|refine W9 ?_ ?_ ?_|refine Yb0 ?_|(refine Yb1 ?_ ?_<;>intro _)|refine Wl (fun _=>?_)|refine Wx (fun _=>?_) ?_|refine Wy (fun _=>?_) ?_|refine Wz (fun _=>?_)|refine WA (fun _=>?_))|refine WJ (fun _=>?_)|refine XdN ?_|with_reducible refine WF ?_)
   exact fin (h1 _ _ e) rfl
end
def TkOk (l:List Tk):Prop:=∀t ∈ l,t.text.length≤100000000∧ -1000000000≤t.line∧t.line≤1000000000
theorem TkOk.at {l:List Tk} (h:TkOk l) {i:Nat} {t:Tk} (e:l[i]? =some t):t.text.length≤100000000∧ -1000000000≤t.line∧t.line≤1000000000:=h t (List.mem_of_getElem? e)
theorem ys_eq {L:Nat} {r:Loop} {Im:Mem} {v:V} {m m':Int} {st:St} {K K':St→Prop} (h:YS Tryz.prog L r Im [v,.int .i64 m'] st K) (e:m'=m) (k:∀st,K st→K' st):YS Tryz.prog L r Im [v,.int .i64 m] st K':=by subst e;exact h.mono k
section
variable {st:St} {l:List Tk} {own:Own} {c L:Nat} {r:Loop} {Im:Mem}
attribute [local irreducible] Go.Aw.appendTo
set_option maxHeartbeats 8000000 in
theorem iter_c (hok:TkOk l) (hn:l.length≤100000000) {J:Nat→St→Prop} (hJ:∀i st,J i st→st.box c=some [.slice 4 (encTs l) own]) (hY:∀i st,i<l.length→J i st→YS Tryz.prog L r Im [.int .i64 (i:Int),.int .i64 (markAt l i)] st (J (i+1))) (h0:J 0 st)
 {I:Mem} {w:World} {cargs:List Value} (hm:Im.le I) (hs:RelS I st w) (hargs:RepL I [.ptr c 0] cargs) (hl:w.heap[L]? =some (.loop r)) (hi:Idle L st):
 Calls Tryz.prog 164 (Value.func (.yield L) #[] #[]::cargs).toArray w fun e w'=>(∃v,e=.returned v)∧∃I' st',Fr I st w I' st' w'∧RelS I' st' w'∧J l.length st':=by
 refine XdM Xb Tryz.func164 rfl rfl (r:=r) (Im:=Im) (args:=[.yld L,.ptr c 0]) (K:=J l.length) rfl ?_ hm hs (by
  simp only [RepL] at hargs ⊢
  exact ⟨_,_,rfl,by simp only [Rep],hargs⟩) hl hi
 have hb:=hJ 0 st h0
 refine ZU (AWh.of (Xl Xb ?_))
 repeat' ((conv=>whnf);first|(with_reducible first|exact Wa|exact Wb|exact Wc|refine Wd (by kernel_rfl) ?_|refine We ?_ ?_ ?_|refine W8 (by decide +kernel) ?_ ?_ ?_|refine W0 (by decide +kernel) ?_ ?_ ?_|refine W9 ?_ ?_ ?_|refine Yb0 ?_|(refine Yb1 ?_ ?_<;>intro _)|refine Wl (fun _=>?_)|refine Wm (by assumption) (by omega) ?_|refine Wn (by omega) (by omega) (fun _ _ _=>?_)|refine Wq (by omega) (by omega) ?_|refine Wz (fun _=>?_)|refine WA (fun _=>?_)|refine WB (by assumption) (by omega) ?_|refine WC (by omega) (by omega) (fun _ _=>?_)|refine WD (by omega) (by omega) (fun _ _=>?_))|refine Xm hb ?_|with_reducible refine WF ?_)
 refine XcZ ?_
 refine XkQ ?_
 refine Xch (α:=Nat×St) (fun x=>[(8,.int .i64 (x.1:Int))]) (fun _=>[]) [0,1,6,7] [] (fun x=>x.2) (fun x=>x.1≤l.length∧J x.1 x.2) (fun x=>l.length - x.1) (0,st) ⟨Nat.zero_le _,h0⟩ Yl (St.le_refl _) ?_
 rintro ⟨i,st1⟩ ⟨hi1,hj⟩
 dsimp only at hi1 hj ⊢
 have hb1:=hJ i st1 hj
 refine ZU (AWh.of (Xl Xb ?_))
 by_cases hlt:i<l.length
 ·obtain ⟨t,ht⟩:∃t,l[(i:Int).toNat]? =some t:=⟨_,List.getElem?_eq_getElem (by omega)⟩
  have ht':l[i]? =some t:=ht
  have hlt2:(i:Int)<(l.length:Int):=by omega
  repeat' ((conv=>whnf);first|(with_reducible first|exact Wa|exact Wb|exact Wc|refine Wd (by kernel_rfl) ?_|refine We ?_ ?_ ?_|refine W8 (by decide +kernel) ?_ ?_ ?_|refine W0 (by decide +kernel) ?_ ?_ ?_|refine W9 ?_ ?_ ?_|refine Yb0 ?_|(refine Yb1 ?_ ?_<;>intro _)|refine Wl (fun _=>?_)|refine Wm (by assumption) (by omega) ?_|refine Wn (by omega) (by omega) (fun _ _ _=>?_)|refine Wq (by omega) (by omega) ?_|refine Wz (fun _=>?_)|refine WA (fun _=>?_)|refine WB (by assumption) (by omega) ?_|refine WC (by omega) (by omega) (fun _ _=>?_)|refine WD (by omega) (by omega) (fun _ _=>?_))|with_reducible refine WF ?_)
  refine ZU (AWh.of (Xl Xb ?_))
  repeat' ((conv=>whnf);first|(with_reducible first|exact Wa|exact Wb|exact Wc|refine Wd (by kernel_rfl) ?_|refine We ?_ ?_ ?_|refine W8 (by decide +kernel) ?_ ?_ ?_|refine W0 (by decide +kernel) ?_ ?_ ?_|refine W9 ?_ ?_ ?_|refine Yb0 ?_|(refine Yb1 ?_ ?_<;>intro _)|refine Wl (fun _=>?_)|refine Wm (by assumption) (by omega) ?_|refine Wn (by omega) (by omega) (fun _ _ _=>?_)|refine Wq (by omega) (by omega) ?_|refine Wz (fun _=>?_)|refine WA (fun _=>?_)|refine WB (by assumption) (by omega) ?_|refine WC (by omega) (by omega) (fun _ _=>?_)|refine WD (by omega) (by omega) (fun _ _=>?_))|with_reducible refine WF ?_)
  refine ZU ?_
  refine XcZ ?_
  refine ZU (AWh.of (Xl Xb ?_))
  repeat' ((conv=>whnf);first|(with_reducible first|exact Wa|exact Wb|exact Wc|refine Wd (by kernel_rfl) ?_|refine We ?_ ?_ ?_|refine W8 (by decide +kernel) ?_ ?_ ?_|refine W0 (by decide +kernel) ?_ ?_ ?_|refine W9 ?_ ?_ ?_|refine Yb0 ?_|(refine Yb1 ?_ ?_<;>intro _)|refine Wl (fun _=>?_)|refine Wm (by assumption) (by omega) ?_|refine Wn (by omega) (by omega) (fun _ _ _=>?_)|refine Wq (by omega) (by omega) ?_|refine Wz (fun _=>?_)|refine WA (fun _=>?_)|refine WB (by assumption) (by omega) ?_|refine WC (by omega) (by omega) (fun _ _=>?_)|refine WD (by omega) (by omega) (fun _ _=>?_))|with_reducible refine WF ?_)
  refine ZU (AWh.of (Xl Xb ?_))
  repeat' ((conv=>whnf);first|(with_reducible first|exact Wa|exact Wb|exact Wc|refine Wd (by kernel_rfl) ?_|refine We ?_ ?_ ?_|refine W8 (by decide +kernel) ?_ ?_ ?_|refine W0 (by decide +kernel) ?_ ?_ ?_|refine W9 ?_ ?_ ?_|refine Yb0 ?_|(refine Yb1 ?_ ?_<;>intro _)|refine Wl (fun _=>?_)|refine Wm (by assumption) (by omega) ?_|refine Wn (by omega) (by omega) (fun _ _ _=>?_)|refine Wq (by omega) (by omega) ?_|refine Wz (fun _=>?_)|refine WA (fun _=>?_)|refine WB (by assumption) (by omega) ?_|refine WC (by omega) (by omega) (fun _ _=>?_)|refine WD (by omega) (by omega) (fun _ _=>?_))|with_reducible refine WF ?_)
  have hy:=hY i st1 hlt hj
  refine ZU (AWh.of (Xl Xb ?_))
  have ho:=hok.at ht'
  clear hY hargs hs hm hl hi
  by_cases hz:i=0
  ·subst hz
   have hma:markAt l 0=if (isTk t 9 [109,111,100,117,108,101]||isTk t 15 [123])=true then 17 else 16:=by unfold markAt;rw [ht'];rfl
   repeat' ((conv=>whnf);first|(with_reducible first|exact Wa|exact Wb|exact Wc|refine Wd (by kernel_rfl) ?_|refine We ?_ ?_ ?_|refine W8 (by decide +kernel) ?_ ?_ ?_|refine W0 (by decide +kernel) ?_ ?_ ?_|refine W9 ?_ ?_ ?_|refine Yb0 ?_|(refine Yb1 ?_ ?_<;>intro _)|refine Wl (fun _=>?_)|refine Wm (by assumption) (by omega) ?_|refine Wn (by omega) (by omega) (fun _ _ _=>?_)|refine Wq (by omega) (by omega) ?_|refine Wz (fun _=>?_)|refine WA (fun _=>?_)|refine WB (by assumption) (by omega) ?_|refine WC (by omega) (by omega) (fun _ _=>?_)|refine WD (by omega) (by omega) (fun _ _=>?_))|refine mis_c ?_|with_reducible refine WF ?_)
   all_goals refine ZU (XhQ Xb 3 rfl rfl rfl rfl rfl ?_)
   all_goals (repeat' ((conv=>whnf);first|(with_reducible first|exact Wa|exact Wb|exact Wc|refine Wd (by kernel_rfl) ?_|refine We ?_ ?_ ?_|refine W8 (by decide +kernel) ?_ ?_ ?_|refine W0 (by decide +kernel) ?_ ?_ ?_|refine W9 ?_ ?_ ?_|refine Yb0 ?_|(refine Yb1 ?_ ?_<;>intro _)|refine Wl (fun _=>?_)|refine Wm (by assumption) (by omega) ?_|refine Wn (by omega) (by omega) (fun _ _ _=>?_)|refine Wq (by omega) (by omega) ?_|refine Wz (fun _=>?_)|refine WA (fun _=>?_)|refine WB (by assumption) (by omega) ?_|refine WC (by omega) (by omega) (fun _ _=>?_)|refine WD (by omega) (by omega) (fun _ _=>?_))|refine ⟨rfl,?_⟩|refine ys_eq hy (by rw [hma]<;>simp [*]) (fun st2 hj2=>?_)|with_reducible refine WF ?_))
   all_goals refine AWh.of (Xl Xb ?_)
   all_goals (repeat' ((conv=>whnf);first|(with_reducible first|exact Wa|exact Wb|exact Wc|refine Wd (by kernel_rfl) ?_|refine We ?_ ?_ ?_|refine W8 (by decide +kernel) ?_ ?_ ?_|refine W0 (by decide +kernel) ?_ ?_ ?_|refine W9 ?_ ?_ ?_|refine Yb0 ?_|(refine Yb1 ?_ ?_<;>intro _)|refine Wl (fun _=>?_)|refine Wm (by assumption) (by omega) ?_|refine Wn (by omega) (by omega) (fun _ _ _=>?_)|refine Wq (by omega) (by omega) ?_|refine Wz (fun _=>?_)|refine WA (fun _=>?_)|refine WB (by assumption) (by omega) ?_|refine WC (by omega) (by omega) (fun _ _=>?_)|refine WD (by omega) (by omega) (fun _ _=>?_))|with_reducible refine WF ?_))
   all_goals refine AWh.of (Xl Xb ?_)
   all_goals (repeat' ((conv=>whnf);first|(with_reducible first|exact Wa|exact Wb|exact Wc|refine Wd (by kernel_rfl) ?_|refine We ?_ ?_ ?_|refine W8 (by decide +kernel) ?_ ?_ ?_|refine W0 (by decide +kernel) ?_ ?_ ?_|refine W9 ?_ ?_ ?_|refine Yb0 ?_|(refine Yb1 ?_ ?_<;>intro _)|refine Wl (fun _=>?_)|refine Wm (by assumption) (by omega) ?_|refine Wn (by omega) (by omega) (fun _ _ _=>?_)|refine Wq (by omega) (by omega) ?_|refine Wz (fun _=>?_)|refine WA (fun _=>?_)|refine WB (by assumption) (by omega) ?_|refine WC (by omega) (by omega) (fun _ _=>?_)|refine WD (by omega) (by omega) (fun _ _=>?_))|with_reducible refine WF ?_))
   all_goals conv=>whnf
   all_goals exact ⟨(0+1,st2),⟨hlt,hj2⟩,by dsimp only;omega,Yl,St.le_refl _⟩
  ·obtain ⟨p,hp⟩:∃p,l[((i:Int) - 1).toNat]? =some p:=⟨_,List.getElem?_eq_getElem (by omega)⟩
   have hp':l[i - 1]? =some p:=by rw [←hp];congr 1;omega
   have hop:=hok.at hp'
   have hma:markAt l i=markP (some p) t:=by unfold markAt ahead;rw [ht',if_neg hz,hp']
   unfold markP at hma
   have hz2:¬(i:Int)=0:=by omega
   repeat' ((conv=>whnf);first|(with_reducible first|exact Wa|exact Wb|exact Wc|refine Wd (by kernel_rfl) ?_|refine We ?_ ?_ ?_|refine W8 (by decide +kernel) ?_ ?_ ?_|refine W0 (by decide +kernel) ?_ ?_ ?_|refine W9 ?_ ?_ ?_|refine Yb0 ?_|(refine Yb1 ?_ ?_<;>intro _)|refine Wl (fun _=>?_)|refine Wm (by assumption) (by omega) ?_|refine Wn (by omega) (by omega) (fun _ _ _=>?_)|refine Wq (by omega) (by omega) ?_|refine Wz (fun _=>?_)|refine WA (fun _=>?_)|refine WB (by assumption) (by omega) ?_|refine WC (by omega) (by omega) (fun _ _=>?_)|refine WD (by omega) (by omega) (fun _ _=>?_))|refine Xm hb1 ?_|refine mis_c ?_|refine Xcm ?_|refine ends_c hop.1 hop.2.1 hop.2.2 ?_|refine Xk [(0,true),(1,true),(2,true),(3,true),(4,true),(5,true),(6,true),(7,true),(8,true),(9,true),(10,true),(11,true),(12,true),(13,true),(14,true),(15,true),(16,true),(17,false),(18,true),(19,true),(20,true)] [] (by decide +kernel) ?_|with_reducible refine WF ?_)
   all_goals refine ZU (XhQ Xb 3 rfl rfl rfl rfl rfl ?_)
   all_goals (repeat' ((conv=>whnf);first|(with_reducible first|exact Wa|exact Wb|exact Wc|refine Wd (by kernel_rfl) ?_|refine We ?_ ?_ ?_|refine W8 (by decide +kernel) ?_ ?_ ?_|refine W0 (by decide +kernel) ?_ ?_ ?_|refine W9 ?_ ?_ ?_|refine Yb0 ?_|(refine Yb1 ?_ ?_<;>intro _)|refine Wl (fun _=>?_)|refine Wm (by assumption) (by omega) ?_|refine Wn (by omega) (by omega) (fun _ _ _=>?_)|refine Wq (by omega) (by omega) ?_|refine Wz (fun _=>?_)|refine WA (fun _=>?_)|refine WB (by assumption) (by omega) ?_|refine WC (by omega) (by omega) (fun _ _=>?_)|refine WD (by omega) (by omega) (fun _ _=>?_))|refine ⟨rfl,?_⟩|refine ys_eq hy (by rw [hma]<;>simp [*]) (fun st2 hj2=>?_)|with_reducible refine WF ?_))
   all_goals refine AWh.of (Xl Xb ?_)
   all_goals (repeat' ((conv=>whnf);first|(with_reducible first|exact Wa|exact Wb|exact Wc|refine Wd (by kernel_rfl) ?_|refine We ?_ ?_ ?_|refine W8 (by decide +kernel) ?_ ?_ ?_|refine W0 (by decide +kernel) ?_ ?_ ?_|refine W9 ?_ ?_ ?_|refine Yb0 ?_|(refine Yb1 ?_ ?_<;>intro _)|refine Wl (fun _=>?_)|refine Wm (by assumption) (by omega) ?_|refine Wn (by omega) (by omega) (fun _ _ _=>?_)|refine Wq (by omega) (by omega) ?_|refine Wz (fun _=>?_)|refine WA (fun _=>?_)|refine WB (by assumption) (by omega) ?_|refine WC (by omega) (by omega) (fun _ _=>?_)|refine WD (by omega) (by omega) (fun _ _=>?_))|with_reducible refine WF ?_))
   all_goals refine AWh.of (Xl Xb ?_)
   all_goals (repeat' ((conv=>whnf);first|(with_reducible first|exact Wa|exact Wb|exact Wc|refine Wd (by kernel_rfl) ?_|refine We ?_ ?_ ?_|refine W8 (by decide +kernel) ?_ ?_ ?_|refine W0 (by decide +kernel) ?_ ?_ ?_|refine W9 ?_ ?_ ?_|refine Yb0 ?_|(refine Yb1 ?_ ?_<;>intro _)|refine Wl (fun _=>?_)|refine Wm (by assumption) (by omega) ?_|refine Wn (by omega) (by omega) (fun _ _ _=>?_)|refine Wq (by omega) (by omega) ?_|refine Wz (fun _=>?_)|refine WA (fun _=>?_)|refine WB (by assumption) (by omega) ?_|refine WC (by omega) (by omega) (fun _ _=>?_)|refine WD (by omega) (by omega) (fun _ _=>?_))|with_reducible refine WF ?_))
   all_goals conv=>whnf
   all_goals exact ⟨(i+1,st2),⟨hlt,hj2⟩,by dsimp only;omega,Yl,St.le_refl _⟩
 ·have hlt2:¬(i:Int)<(l.length:Int):=by omega
  obtain rfl:i=l.length:=by omega
  repeat' ((conv=>whnf);first|(with_reducible first|exact Wa|exact Wb|exact Wc|refine Wd (by kernel_rfl) ?_|refine We ?_ ?_ ?_|refine W8 (by decide +kernel) ?_ ?_ ?_|refine W0 (by decide +kernel) ?_ ?_ ?_|refine W9 ?_ ?_ ?_|refine Yb0 ?_|(refine Yb1 ?_ ?_<;>intro _)|refine Wl (fun _=>?_)|refine Wm (by assumption) (by omega) ?_|refine Wn (by omega) (by omega) (fun _ _ _=>?_)|refine Wq (by omega) (by omega) ?_|refine Wz (fun _=>?_)|refine WA (fun _=>?_)|refine WB (by assumption) (by omega) ?_|refine WC (by omega) (by omega) (fun _ _=>?_)|refine WD (by omega) (by omega) (fun _ _=>?_))|with_reducible refine WF ?_)
  refine ZU (AWh.of (Xl Xb ?_))
  repeat' ((conv=>whnf);first|(with_reducible first|exact Wa|exact Wb|exact Wc|refine Wd (by kernel_rfl) ?_|refine We ?_ ?_ ?_|refine W8 (by decide +kernel) ?_ ?_ ?_|refine W0 (by decide +kernel) ?_ ?_ ?_|refine W9 ?_ ?_ ?_|refine Yb0 ?_|(refine Yb1 ?_ ?_<;>intro _)|refine Wl (fun _=>?_)|refine Wm (by assumption) (by omega) ?_|refine Wn (by omega) (by omega) (fun _ _ _=>?_)|refine Wq (by omega) (by omega) ?_|refine Wz (fun _=>?_)|refine WA (fun _=>?_)|refine WB (by assumption) (by omega) ?_|refine WC (by omega) (by omega) (fun _ _=>?_)|refine WD (by omega) (by omega) (fun _ _=>?_))|with_reducible refine WF ?_)
  all_goals conv=>whnf
  all_goals exact ⟨.inl rfl,hj⟩
end
end Go.Proofs.YtkidoddkbhchkaaGreatDoor
namespace Go.Aw
theorem Own.Xar {own:Own} {S:St} {n:Nat}:(own.st S n).box=S.box:=by cases own<;>rfl
theorem Own.XeH {own:Own} {S:St} {n b:Nat} {C:List V}:(own.st S n).setBox b C=own.st (S.setBox b C) n:=by cases own<;>rfl
theorem Xgo {own:Own} {S:St} {n b:Nat} {C:List V}:(own.st (S.setBox b C) n).box b=some C:=by rw [Own.Xar];simp [St.setBox]
theorem Own.JZ {own:Own} {S:St} {b:Nat} {C:List V} (h:own.good S) (hb:S.box b≠none):own.good (S.setBox b C):=by
 cases own with
 |any=>exact h
 |full=>exact trivial
 |tok t=>
  have h:S.fresh t:=h
  refine (show (S.setBox b C).fresh t from ⟨?_,h.2⟩)
  have:t≠b:=by rintro rfl;exact hb h.1
  simp only [St.setBox]
  rw [if_neg this];exact h.1
theorem Own.Xca {own:Own} {S:St} {b:Nat} {C D:List V} (h:own.good (S.setBox b C)):own.good (S.setBox b D):=by
 cases own with
 |any=>exact h
 |full=>exact trivial
 |tok t=>
  have h:(S.setBox b C).fresh t:=h
  refine (show (S.setBox b D).fresh t from ⟨?_,h.2⟩)
  have h1:=h.1
  simp only [St.setBox] at h1 ⊢
  split at h1
  ·cases h1
  ·rename_i e;rw [if_neg e];exact h1
end Go.Aw
namespace Go.Proofs.YtkidoddkbhchkaaGreatDoor
open Go Go.Aw
theorem ZX (l:List Tk):(encTs l).length=l.length:=by unfold encTs;rw [List.length_map]
theorem Gj {l:List Tk} {x:Tk} {own:Own} {st:St} {K:V→St→Prop} (h:own.good st) (hb:l.length+1≤1000000000)
 (k:∀own':Own,own'.good st→K (.slice 4 (encTs (l++[x])) own') (own'.st st ((l++[x]).length*4))):appendTo 4 40 (encTs l) own [x.cells] (own.st st (l.length*4)) K:=by
 have:=QW (sz:=4) (bytes:=40) (es:=encTs l) (new:=[x.cells]) (K:=K) h (by rw [ZX];show (l.length+1)*40≤_;omega) (by rw [ZX];show l.length+1<lim;simp only [lim];omega) rfl (fun own' ho=>by
  have:=k own' ho
  rw [ZX]
  have e:encTs l++[x.cells].map (·.map V.wk0)=encTs (l++[x]):=by unfold encTs;rw [List.map_append];rfl
  rw [e]
  rw [List.length_append] at this
  exact this)
 rw [ZX] at this
 exact this
abbrev mkT (m:Int) (t:Tk):Tk:=⟨m,[],t.line,t.col⟩
theorem Xjh {f:FuncId} {args:List V} {st:St} {K:Res→St→Prop} {c:Bool} (hf:∀(st:St) (K:Res→St→Prop),K (.ret (.bool c)) st→PC f args st K) (e:c=true) (k:K (.ret (.bool true)) st):PC f args st K:=hf st K (by rw [e];exact k)
theorem Xk8 {f:FuncId} {args:List V} {st:St} {K:Res→St→Prop} {c:Bool} (hf:∀(st:St) (K:Res→St→Prop),K (.ret (.bool c)) st→PC f args st K) (e:c=false) (k:K (.ret (.bool false)) st):PC f args st K:=hf st K (by rw [e];exact k)
theorem JQ {st:St} {b c:Nat} {cs:List V} (h:b≠c):(st.setBox b cs).box c=st.box c:=by simp [St.setBox,Ne.symm h]
theorem app_tkx {l:List Tk} {x:Tk} {own:Own} {S:St} {b:Nat} {C:List V} {K:V→St→Prop} (h:own.good (S.setBox b C)) (hb:l.length+1≤1000000000)
 (k:∀own':Own,own'.good (S.setBox b C)→K (.slice 4 (encTs (l++[x])) own') (own'.st (S.setBox b C) ((l++[x]).length*4))):appendTo 4 40 (encTs l) own [x.cells] ((own.st S (l.length*4)).setBox b C) K:=by
 rw [Own.XeH];exact Gj h hb k
theorem Xci:∀(a:List Tk) (p:Option Tk) (t:Tk),markG p (a++[t])=markG p a++markT (markP (a.getLast?.or p) t) t
 |[],p,t=>by simp [markG]
 |x::r,p,t=>by
  rw [List.cons_append,markG,Xci r (some x) t,markG,List.append_assoc]
  congr 3
  cases r with
  |nil=>rfl
  |cons y r=>rw [List.getLast?_cons_cons];cases h:(y::r).getLast? with
   |none=>simp at h
   |some z=>rfl
theorem Xai:∀(a:List Tk) (p:Option Tk),(markG p a).length≤2*a.length
 |[],p=>Nat.le_refl _
 |x::r,p=>by
  have:=Xai r (some x)
  rw [markG,List.length_append,List.length_cons]
  unfold markT
  split<;>simp only [List.length_cons,List.length_nil]<;>omega
theorem Xhe {l:List Tk} {i:Nat} {t:Tk} (h:l[i]? =some t):markG none (l.take (i+1))=markG none (l.take i)++markT (markAt l i) t:=by
 have hlt:=(List.getElem?_eq_some_iff.1 h).1
 have e:l.take (i+1)=l.take i++[t]:=by rw [List.take_add_one,h];rfl
 rw [e,Xci]
 congr 3
 unfold markAt ahead
 rw [h]
 dsimp only
 congr 1
 cases i with
 |zero=>rfl
 |succ i=>
  rw [if_neg (by omega),List.getLast?_take,if_neg (by omega)]
  have:l[i+1 - 1]? =some l[i]:=by rw [Nat.add_sub_cancel];exact List.getElem?_eq_getElem (by omega)
  rw [this];rfl
section
variable {st:St} {l:List Tk} {own:Own} {K:Res→St→Prop}
attribute [local irreducible] Go.Aw.appendTo
set_option maxHeartbeats 8000000 in
theorem mmark_c (hok:TkOk l) (hn:l.length≤100000000) (h:K (.ret (.slice 4 (encTs (markF l)) .any)) st):PC 54 [.slice 4 (encTs l) own] st K:=by
 refine PCalls.ends (Xew Xb Tryz.func54 rfl (by decide) rfl ?_)
 refine Xl Xb ?_
 repeat' ((conv=>whnf);first|(with_reducible first|exact Wa|exact Wb|exact Wc|refine Wd (by kernel_rfl) ?_|refine We ?_ ?_ ?_|refine W8 (by decide +kernel) ?_ ?_ ?_|refine W0 (by decide +kernel) ?_ ?_ ?_|refine W9 ?_ ?_ ?_|refine Yb0 ?_|(refine Yb1 ?_ ?_<;>intro _)|refine Wl (fun _=>?_)|refine Wm (by assumption) (by omega) ?_|refine Wn (by omega) (by omega) (fun _ _ _=>?_)|refine Wq (by omega) (by omega) ?_|refine Wx (fun _=>?_) ?_|refine Wy (fun _=>?_) ?_|refine Wz (fun _=>?_)|refine WA (fun _=>?_)|refine WB (by assumption) (by omega) ?_|refine WC (by omega) (by omega) (fun _ _=>?_)|refine WD (by omega) (by omega) (fun _ _=>?_))|with_reducible refine WF ?_)
 refine Xl Xb ?_
 repeat' ((conv=>whnf);first|(with_reducible first|exact Wa|exact Wb|exact Wc|refine Wd (by kernel_rfl) ?_|refine We ?_ ?_ ?_|refine W8 (by decide +kernel) ?_ ?_ ?_|refine W0 (by decide +kernel) ?_ ?_ ?_|refine W9 ?_ ?_ ?_|refine Yb0 ?_|(refine Yb1 ?_ ?_<;>intro _)|refine Wl (fun _=>?_)|refine Wm (by assumption) (by omega) ?_|refine Wn (by omega) (by omega) (fun _ _ _=>?_)|refine Wq (by omega) (by omega) ?_|refine Wx (fun _=>?_) ?_|refine Wy (fun _=>?_) ?_|refine Wz (fun _=>?_)|refine WA (fun _=>?_)|refine WB (by assumption) (by omega) ?_|refine WC (by omega) (by omega) (fun _ _=>?_)|refine WD (by omega) (by omega) (fun _ _=>?_))|refine ⟨⟨by omega,by omega,by omega,(by unfold lim<;>omega)⟩,.inl ⟨rfl,fun b0 f0=>?_⟩⟩|with_reducible refine WF ?_)
 refine Xl Xb ?_
 repeat' ((conv=>whnf);first|(with_reducible first|exact Wa|exact Wb|exact Wc|refine Wd (by kernel_rfl) ?_|refine We ?_ ?_ ?_|refine W8 (by decide +kernel) ?_ ?_ ?_|refine W0 (by decide +kernel) ?_ ?_ ?_|refine W9 ?_ ?_ ?_|refine Yb0 ?_|(refine Yb1 ?_ ?_<;>intro _)|refine Wl (fun _=>?_)|refine Wm (by assumption) (by omega) ?_|refine Wn (by omega) (by omega) (fun _ _ _=>?_)|refine Wq (by omega) (by omega) ?_|refine Wx (fun _=>?_) ?_|refine Wy (fun _=>?_) ?_|refine Wz (fun _=>?_)|refine WA (fun _=>?_)|refine WB (by assumption) (by omega) ?_|refine WC (by omega) (by omega) (fun _ _=>?_)|refine WD (by omega) (by omega) (fun _ _=>?_))|refine steps_c (fun c fc=>?_)|with_reducible refine WF ?_)
 conv=>whnf
 refine Now.pub 1 0 rfl rfl rfl (fun b1 f1=>?_)
 refine Now.pub 3 1 rfl rfl rfl (fun b3 f3=>?_)
 refine Now.here ?_
 obtain ⟨S,hS⟩:∃S,S=(st.setBox c [.slice 4 (encTs l) own]).setBox b1 [.slice 4 (encTs l) own]:=⟨_,rfl⟩
 have n0c:c≠b0:=by
  rintro rfl
  have:=fc.2
  simp [St.setHw] at this
 have n01:b1≠b0:=by
  rintro rfl
  have:=f1.2
  simp [St.setHw,St.setBox] at this
 have n03:b3≠b0:=by
  rintro rfl
  have:=f3.2
  simp [St.setHw,St.setBox] at this
 have nc1:b1≠c:=by
  rintro rfl
  have:=f1.1
  rw [St.Xd] at this;cases this
 have n31:b3≠b1:=by
  rintro rfl
  have:=f3.1
  rw [St.Xd] at this;cases this
 have n3c:b3≠c:=by
  rintro rfl
  have:=f3.1
  rw [JQ (Ne.symm n31),St.Xd] at this;cases this
 have fc0:st.box c=none:=fc.1
 have f10:st.box b1=none:=by have:=f1.1;rw [JQ (Ne.symm nc1)] at this;exact this
 have f30:st.box b3=none:=by have:=f3.1;rw [JQ (Ne.symm n31),JQ (Ne.symm n3c)] at this;exact this
 have hSc:S.box c=some [.slice 4 (encTs l) own]:=by rw [hS,JQ nc1,St.Xd]
 have hS1:S.box b1=some [.slice 4 (encTs l) own]:=by rw [hS,St.Xd]
 have hle:∀X,st.le (S.setBox b3 X):=fun X=>by
  rw [hS];exact St.Xg (St.Xg (St.Xg (St.le_refl _) fc0 _) f10 _) f30 _
 have hgo:Own.good (S.setBox b3 [.slice 4 [] (.tok b0)]) (.tok b0):=by
  refine (show (S.setBox b3 _).fresh b0 from ⟨?_,by rw [hS];exact f0.2⟩)
  rw [JQ n03,hS,JQ n01,JQ n0c];exact f0.1
 obtain ⟨J,hJ⟩:∃J:Nat→St→Prop,J=fun i st'=>∃o:Own,o.good (S.setBox b3 [.slice 4 (encTs (markG none (l.take i))) o])∧st'=o.st (S.setBox b3 [.slice 4 (encTs (markG none (l.take i))) o]) ((markG none (l.take i)).length*4):=⟨_,rfl⟩
 refine ⟨⟨rfl,rfl⟩,164,[.ptr c 0],J l.length,⟨rfl,⟨_,Tryz.func164,by decide,by decide⟩⟩,?_,?_⟩
 ·intro D B Im β a wm L df fi hF I w cargs hm hs hargs hl hi
  refine iter_c (own:=own) hok hn (J:=J) (fun i st1 hj=>?_) (fun i st1 hlt hj=>?_) ?_ hm hs hargs hl hi
  ·rw [hJ] at hj
   obtain ⟨o,_,rfl⟩:=hj
   rw [Own.Xar,JQ n3c,hSc]
  ·refine XnH Xb hF rfl rfl rfl (by decide) rfl rfl ?_
   rw [hJ] at hj
   obtain ⟨o,hgo,rfl⟩:=hj
   obtain ⟨t,ht⟩:∃t,l[(i:Int).toNat]? =some t:=⟨_,List.getElem?_eq_getElem (by omega)⟩
   have htk:=Xhe (l:=l) (i:=i) (t:=t) ht
   have hlen2:=Xai (l.take i) none
   have hti:(l.take i).length≤l.length:=by rw [List.length_take];omega
   generalize hout:markG none (l.take i)=out at *
   have hb3:(o.st (S.setBox b3 [.slice 4 (encTs out) o]) (out.length*4)).box b3=some [.slice 4 (encTs out) o]:=by rw [Own.Xar,St.Xd]
   have hb1:(o.st (S.setBox b3 [.slice 4 (encTs out) o]) (out.length*4)).box b1=some [.slice 4 (encTs l) own]:=by rw [Own.Xar,JQ n31,hS1]
   have hlo:out.length+1≤1000000000:=by omega
   unfold roundWp
   by_cases hz:markAt l i=0
   ·have hfin:∀o2:Own,o2.good (S.setBox b3 [.slice 4 (encTs out) o])→J (i+1) ((o2.st (S.setBox b3 [.slice 4 (encTs out) o]) ((out++[t]).length*4)).setBox b3 [.slice 4 (encTs (out++[t])) o2]):=fun o2 h2=>by
     rw [hJ]
     refine ⟨o2,?_,?_⟩
     ·rw [htk];unfold markT;rw [if_pos hz];exact Own.Xca h2
     ·rw [htk];unfold markT;rw [if_pos hz,Own.XeH,St.set_set]
    repeat' ((conv=>whnf);first|(with_reducible first|exact Wa|exact Wb|exact Wc|refine Wd (by kernel_rfl) ?_|refine We ?_ ?_ ?_|refine W8 (by decide +kernel) ?_ ?_ ?_|refine W0 (by decide +kernel) ?_ ?_ ?_|refine W9 ?_ ?_ ?_|refine Yb0 ?_|(refine Yb1 ?_ ?_<;>intro _)|refine Wl (fun _=>?_)|refine Wm (by assumption) (by omega) ?_|refine Wn (by omega) (by omega) (fun _ _ _=>?_)|refine Wq (by omega) (by omega) ?_|refine Wx (fun _=>?_) ?_|refine Wy (fun _=>?_) ?_|refine Wz (fun _=>?_)|refine WA (fun _=>?_)|refine WB (by assumption) (by omega) ?_|refine WC (by omega) (by omega) (fun _ _=>?_)|refine WD (by omega) (by omega) (fun _ _=>?_))|refine ⟨⟨rfl,rfl⟩,?_⟩|refine Xm hb3 ?_|refine Xm hb1 ?_|refine Gj (x:=t) hgo hlo (fun o2 h2=>?_)|refine Xm Xgo ?_|exact hfin o2 h2|refine Xk [(0,true),(1,true),(2,true),(3,true),(4,true),(5,true),(6,true),(7,true),(8,true),(9,true),(10,true),(11,true),(12,true),(13,true),(14,false),(15,false)] [1] (by decide +kernel) ?_|refine Xk [(0,true),(1,true),(2,true),(3,true),(4,true),(5,true),(6,false),(7,false)] [1] (by decide +kernel) ?_|with_reducible refine WF ?_)
   ·have hlo2:(out++[mkT (markAt l i) t]).length+1≤1000000000:=by rw [List.length_append,List.length_singleton];omega
    have hfin:∀o2 o3:Own,o2.good (S.setBox b3 [.slice 4 (encTs out) o])→o3.good ((S.setBox b3 [.slice 4 (encTs out) o]).setBox b3 [.slice 4 (encTs (out++[mkT (markAt l i) t])) o2])→
     J (i+1) ((o3.st ((S.setBox b3 [.slice 4 (encTs out) o]).setBox b3 [.slice 4 (encTs (out++[mkT (markAt l i) t])) o2]) ((out++[mkT (markAt l i) t]++[t]).length*4)).setBox b3 [.slice 4 (encTs (out++[mkT (markAt l i) t]++[t])) o3]):=fun o2 o3 h2 h3=>by
     rw [hJ]
     refine ⟨o3,?_,?_⟩
     ·rw [htk];unfold markT;rw [if_neg hz,St.set_set] at *;exact Own.Xca h3
     ·rw [htk];unfold markT;rw [if_neg hz,Own.XeH,St.set_set,St.set_set,List.append_assoc];rfl
    have hb1':∀(o2:Own) n C,((o2.st (S.setBox b3 [.slice 4 (encTs out) o]) n).setBox b3 C).box b1=some [.slice 4 (encTs l) own]:=fun o2 n C=>by rw [JQ n31,Own.Xar,JQ n31,hS1]
    repeat' ((conv=>whnf);first|(with_reducible first|exact Wa|exact Wb|exact Wc|refine Wd (by kernel_rfl) ?_|refine We ?_ ?_ ?_|refine W8 (by decide +kernel) ?_ ?_ ?_|refine W0 (by decide +kernel) ?_ ?_ ?_|refine W9 ?_ ?_ ?_|refine Yb0 ?_|(refine Yb1 ?_ ?_<;>intro _)|refine Wl (fun _=>?_)|refine Wm (by assumption) (by omega) ?_|refine Wn (by omega) (by omega) (fun _ _ _=>?_)|refine Wq (by omega) (by omega) ?_|refine Wx (fun _=>?_) ?_|refine Wy (fun _=>?_) ?_|refine Wz (fun _=>?_)|refine WA (fun _=>?_)|refine WB (by assumption) (by omega) ?_|refine WC (by omega) (by omega) (fun _ _=>?_)|refine WD (by omega) (by omega) (fun _ _=>?_))|refine ⟨⟨rfl,rfl⟩,?_⟩|refine Xm hb3 ?_|refine Xm hb1 ?_|refine Xm (hb1' _ _ _) ?_|refine Xm (St.Xd ..) ?_|refine Gj (x:=mkT (markAt l i) t) hgo hlo (fun o2 h2=>?_)|refine app_tkx (x:=t) (Own.JZ h2 (by rw [St.Xd]<;>simp)) hlo2 (fun o3 h3=>?_)|refine Xm Xgo ?_|exact hfin o2 o3 h2 h3|refine Xk [(0,true),(1,true),(2,true),(3,true),(4,true),(5,true),(6,true),(7,true),(8,true),(9,true),(10,true),(11,true),(12,true),(13,true),(14,false),(15,false)] [1] (by decide +kernel) ?_|refine Xk [(0,true),(1,true),(2,true),(3,true),(4,true),(5,true),(6,false),(7,false)] [1] (by decide +kernel) ?_|with_reducible refine WF ?_)
  ·rw [hJ]
   exact ⟨.tok b0,hgo,by rw [hS];rfl⟩
 ·intro st' hk
  rw [hJ,List.take_length] at hk
  obtain ⟨o,hgo,rfl⟩:=hk
  have hb3:(o.st (S.setBox b3 [.slice 4 (encTs (markG none l)) o]) ((markG none l).length*4)).box b3=some [.slice 4 (encTs (markG none l)) o]:=Xgo
  have hb1:(o.st (S.setBox b3 [.slice 4 (encTs (markG none l)) o]) ((markG none l).length*4)).box b1=some [.slice 4 (encTs l) own]:=by rw [Own.Xar,JQ n31,hS1]
  have hlen2:=Xai l none
  have hlo:(markG none l).length+1≤1000000000:=by omega
  refine Xl Xb ?_
  have hle1:st.le (o.st (S.setBox b3 [.slice 4 (encTs (markG none l)) o]) ((markG none l).length*4)):=St.le_trans (hle _) (Own.XR hgo)
  have hle2:∀(o2:Own) (n:Nat) (C D:List V),o2.good (S.setBox b3 C)→st.le ((o2.st (S.setBox b3 C) n).setBox b3 D):=fun o2 n C D h2=>by
   rw [Own.XeH,St.set_set];exact St.le_trans (hle _) (Own.XR (Own.Xca h2))
  have hend:∀x:List Tk,markE l=x→K (.ret (.slice 4 (encTs (markG none l++x)) .any)) st:=fun x e=>by
   have:=h;unfold markF at this;rw [e] at this;exact this
  cases hlast:l.getLast? with
  |none=>
   obtain rfl:l=[]:=List.getLast?_eq_none_iff.1 hlast
   have hend:=hend [⟨16,[],0,0⟩] rfl
   have hz0:(([]:List Tk).length:Int)=0:=rfl
   repeat' ((conv=>whnf);first|(with_reducible first|exact Wa|exact Wb|exact Wc|refine Wd (by kernel_rfl) ?_|refine We ?_ ?_ ?_|refine W8 (by decide +kernel) ?_ ?_ ?_|refine W0 (by decide +kernel) ?_ ?_ ?_|refine W9 ?_ ?_ ?_|refine Yb0 ?_|(refine Yb1 ?_ ?_<;>intro _)|refine Wl (fun _=>?_)|refine Wm (by assumption) (by omega) ?_|refine Wn (by omega) (by omega) (fun _ _ _=>?_)|refine Wq (by omega) (by omega) ?_|refine Wx (fun _=>?_) ?_|refine Wy (fun _=>?_) ?_|refine Wz (fun _=>?_)|refine WA (fun _=>?_)|refine WB (by assumption) (by omega) ?_|refine WC (by omega) (by omega) (fun _ _=>?_)|refine WD (by omega) (by omega) (fun _ _=>?_))|refine Xm hb1 ?_|refine Xm hb3 ?_|refine Gj (x:=⟨16,[],0,0⟩) hgo hlo (fun o2 h2=>?_)|refine Xm Xgo ?_|refine Xm (St.Xd ..) ?_|with_reducible refine WF ?_)
   all_goals conv=>whnf
   all_goals refine ⟨.inr rfl,?_⟩
   all_goals conv=>whnf
   all_goals exact ⟨_,_,.inr rfl,hle2 o2 _ _ _ h2,hend⟩
  |some t=>
   have hpos:0<l.length:=List.length_pos_iff.2 (fun e=>by rw [e] at hlast;cases hlast)
   have ht:l[((l.length:Nat) - 1:Int).toNat]? =some t:=by
    rw [List.getLast?_eq_getElem?] at hlast
    rw [←hlast];congr 1;omega
   have hne:¬(l.length:Int)=0:=by omega
   cases ho:mopens t with
   |true=>
    have hend:=hend [⟨16,[],0,0⟩] (by unfold markE;rw [hlast];simp [ho])
    repeat' ((conv=>whnf);first|(with_reducible first|exact Wa|exact Wb|exact Wc|refine Wd (by kernel_rfl) ?_|refine We ?_ ?_ ?_|refine W8 (by decide +kernel) ?_ ?_ ?_|refine W0 (by decide +kernel) ?_ ?_ ?_|refine W9 ?_ ?_ ?_|refine Yb0 ?_|(refine Yb1 ?_ ?_<;>intro _)|refine Wl (fun _=>?_)|refine Wm (by assumption) (by omega) ?_|refine Wn (by omega) (by omega) (fun _ _ _=>?_)|refine Wq (by omega) (by omega) ?_|refine Wx (fun _=>?_) ?_|refine Wy (fun _=>?_) ?_|refine Wz (fun _=>?_)|refine WA (fun _=>?_)|refine WB (by assumption) (by omega) ?_|refine WC (by omega) (by omega) (fun _ _=>?_)|refine WD (by omega) (by omega) (fun _ _=>?_))|refine Xm hb1 ?_|refine Xm hb3 ?_|refine Xjh (fun st K h=>Xcm h) ho ?_|refine Gj (x:=⟨16,[],0,0⟩) hgo hlo (fun o2 h2=>?_)|refine Xm Xgo ?_|refine Xm (St.Xd ..) ?_|with_reducible refine WF ?_)
    all_goals conv=>whnf
    all_goals refine ⟨.inr rfl,?_⟩
    all_goals conv=>whnf
    all_goals exact ⟨_,_,.inr rfl,hle2 o2 _ _ _ h2,hend⟩
   |false=>
    have hend:=hend [] (by unfold markE;rw [hlast];simp [ho])
    rw [List.append_nil] at hend
    repeat' ((conv=>whnf);first|(with_reducible first|exact Wa|exact Wb|exact Wc|refine Wd (by kernel_rfl) ?_|refine We ?_ ?_ ?_|refine W8 (by decide +kernel) ?_ ?_ ?_|refine W0 (by decide +kernel) ?_ ?_ ?_|refine W9 ?_ ?_ ?_|refine Yb0 ?_|(refine Yb1 ?_ ?_<;>intro _)|refine Wl (fun _=>?_)|refine Wm (by assumption) (by omega) ?_|refine Wn (by omega) (by omega) (fun _ _ _=>?_)|refine Wq (by omega) (by omega) ?_|refine Wx (fun _=>?_) ?_|refine Wy (fun _=>?_) ?_|refine Wz (fun _=>?_)|refine WA (fun _=>?_)|refine WB (by assumption) (by omega) ?_|refine WC (by omega) (by omega) (fun _ _=>?_)|refine WD (by omega) (by omega) (fun _ _=>?_))|refine Xm hb1 ?_|refine Xm hb3 ?_|refine Xk8 (fun st K h=>Xcm h) ho ?_|with_reducible refine WF ?_)
    all_goals conv=>whnf
    all_goals refine ⟨.inr rfl,?_⟩
    all_goals conv=>whnf
    all_goals exact ⟨_,_,.inr rfl,hle1,hend⟩
end
def RowOk (st0 st:St):Own×List Nd→Prop
 |(.any,_)=>False
 |(.full,_)=>True
 |(.tok t,l)=>st0.fresh t∧st.hw t=some (l.length*6)
def Apart:Own×List Nd→Own×List Nd→Prop
 |(.tok t,_),(.tok u,_)=>t≠u
 |_,_=>True
theorem Apart.symm {r q:Own×List Nd} (h:Apart r q):Apart q r:=by
 obtain ⟨o1,l1⟩:=r;obtain ⟨o2,l2⟩:=q
 cases o1<;>cases o2<;>first|exact trivial|exact Ne.symm h
structure Rx (st0 st:St) (rows:List (Own×List Nd)):Prop where
 le:st0.le st
 ok:∀r ∈ rows,RowOk st0 st r
 ap:rows.Pairwise Apart
section
variable {st0 st:St} {r q:Own×List Nd} {rows:List (Own×List Nd)}
theorem Rx.start:Rx st st []:=⟨St.le_refl _,fun r hr=>absurd hr List.not_mem_nil,List.Pairwise.nil⟩
theorem Rx.drop (h:Rx st0 st (r::rows)):Rx st0 st rows:=⟨h.le,fun q hq=>h.ok q (List.mem_cons_of_mem _ hq),(List.pairwise_cons.1 h.ap).2⟩
theorem Rx.push (h:Rx st0 st rows) (l:List Nd):Rx st0 st ((.full,l)::rows):=⟨h.le,fun q hq=>by
 rcases List.mem_cons.1 hq with e|e
 ·subst e;exact trivial
 ·exact h.ok q e,List.pairwise_cons.2 ⟨fun q hq=>trivial,h.ap⟩⟩
theorem Rx.swap (h:Rx st0 st (r::q::rows)):Rx st0 st (q::r::rows):=by
 have h1:=List.pairwise_cons.1 h.ap
 have h2:=List.pairwise_cons.1 h1.2
 refine ⟨h.le,fun x hx=>h.ok x ?_,List.pairwise_cons.2 ⟨fun x hx=>?_,List.pairwise_cons.2 ⟨fun x hx=>h1.1 x (List.mem_cons_of_mem _ hx),h2.2⟩⟩⟩
 ·simp only [List.mem_cons] at hx ⊢
  rcases hx with e|e|e
  ·exact .inr (.inl e)
  ·exact .inl e
  ·exact .inr (.inr e)
 ·rcases List.mem_cons.1 hx with e|e
  ·subst e;exact (h1.1 q (List.mem_cons_self ..)).symm
  ·exact h2.1 x e
theorem Rx.fresh {t:Nat} (h:Rx st0 st rows) (ht:st.fresh t):st0.fresh t:=by
 refine ⟨?_,?_⟩
 ·cases e:st0.box t with
  |none=>rfl
  |some c=>
   have:=h.le.1 t c e
   rw [ht.1] at this;cases this
 ·cases e:st0.hw t with
  |none=>rfl
  |some c=>
   have:=h.le.2 t c e
   rw [ht.2] at this;cases this
theorem Rx.stale {t:Nat} (h:Rx st0 st rows) (ht:st.fresh t):∀r ∈ rows,r.1≠.tok t:=fun r hr e=>by
 have:=h.ok r hr
 obtain ⟨o,l⟩:=r
 dsimp only at e
 subst e
 have:=this.2
 rw [ht.2] at this;cases this
theorem Rx.app {own:Own} {l new:List Nd} {K:V→St→Prop} (h:Rx st0 st ((own,l)::rows)) (hb:l.length+new.length≤1000000000)
 (k:∀own' st',st'.box=st.box→Rx st0 st' ((own',l++new)::rows)→K (.slice 6 ((l++new).map encN) own') st'):appendTo 6 72 (l.map encN) own (new.map encN) st K:=by
 have hw:(new.map encN).map (·.map V.wk0)=new.map encN:=by
  rw [List.map_map]
  exact List.map_congr_left fun x _=>rfl
 have hsc:((new.map encN).all fun v=>v.all V.sc)=true:=by
  rw [List.all_map,List.all_eq_true]
  intro x _;rfl
 have hlen:(l.map encN).length+(new.map encN).length=(l++new).length:=by simp
 have hap:=List.pairwise_cons.1 h.ap
 have mk:∀(t:Nat) (m:St),(∀r ∈ rows,RowOk st0 m r)→st0.fresh t→st0.le m→(∀r ∈ rows,r.1≠.tok t)→m.hw t=some ((l++new).length*6)→Rx st0 m ((.tok t,l++new)::rows):=by
  intro t m h1 h2 h4 h5 h6
  refine ⟨h4,fun r hr=>?_,List.pairwise_cons.2 ⟨fun r hr=>?_,hap.2⟩⟩
  ·rcases List.mem_cons.1 hr with e|e
   ·subst e;exact ⟨h2,h6⟩
   ·exact h1 r e
  ·obtain ⟨o,q⟩:=r
   cases o with
   |tok u=>exact fun e=>h5 _ hr (by subst e;rfl)
   |any=>exact trivial
   |full=>exact trivial
 refine ⟨by rw [hlen,List.length_append];omega,by rw [hlen,List.length_append];unfold lim;omega,Xo hsc ?_⟩
 cases own with
 |any=>exact (h.ok _ (List.mem_cons_self ..)).elim
 |full=>
  refine ⟨fun e=>?_,fun _=>.inl fun t ht=>?_⟩
  ·have e:new=[]:=List.map_eq_nil_iff.1 e
   subst e
   have:=k .full st rfl (by rw [List.append_nil];exact h)
   rw [List.append_nil] at this;exact this
  ·rw [hw,hlen,←List.map_append]
   refine k (.tok t) _ rfl (mk t _ (fun r hr=>?_) (h.fresh ht) (St.UY h.le (h.fresh ht).2 _) (h.drop.stale ht) (by simp [St.setHw]))
   have h1:=h.ok r (List.mem_cons_of_mem _ hr)
   have h2:=h.drop.stale ht r hr
   obtain ⟨o,q⟩:=r
   cases o with
   |tok u=>
    have:u≠t:=fun e=>h2 (by subst e;rfl)
    exact ⟨h1.1,by simp only [St.setHw];rw [if_neg this];exact h1.2⟩
   |any=>exact h1
   |full=>exact h1
 |tok t0=>
  have h0:=h.ok _ (List.mem_cons_self ..)
  refine ⟨by rw [List.length_map];exact h0.2,fun t ht=>?_⟩
  rw [hw,hlen,←List.map_append]
  have hne:∀r ∈ rows,r.1≠.tok t0:=fun r hr e=>by
   have:=hap.1 r hr
   obtain ⟨o,q⟩:=r
   dsimp only at e
   subst e
   exact this rfl
  have hst:∀r ∈ rows,r.1≠.tok t:=fun r hr=>by
   rcases ht with rfl|ht
   ·exact hne r hr
   ·exact h.drop.stale ht r hr
  have hf:st0.fresh t:=by
   rcases ht with rfl|ht
   ·exact h0.1
   ·exact h.fresh ht
  refine k (.tok t) _ rfl (mk t _ (fun r hr=>?_) hf ⟨h.le.1,fun x n hx=>?_⟩ hst (by simp [St.setHw]))
  ·have h1:=h.ok r (List.mem_cons_of_mem _ hr)
   have h2:=hst r hr
   have h3:=hne r hr
   obtain ⟨o,q⟩:=r
   cases o with
   |tok u=>
    have e1:u≠t:=fun e=>h2 (by subst e;rfl)
    have e2:u≠t0:=fun e=>h3 (by subst e;rfl)
    exact ⟨h1.1,by simp only [St.setHw,St.dropHw];rw [if_neg e1,if_neg e2];exact h1.2⟩
   |any=>exact h1
   |full=>exact h1
  ·simp only [St.setHw,St.dropHw]
   split
   ·rename_i e;subst e
    rw [hf.2] at hx;cases hx
   ·split
    ·rename_i e;subst e
     rw [h0.1.2] at hx;cases hx
    ·exact h.le.2 x n hx
theorem Rx.setBox {b:Nat} {cs cs':List V} (h:Rx (st0.setBox b cs) st rows):Rx (st0.setBox b cs') (st.setBox b cs') rows:=by
 refine ⟨⟨fun x c hx=>?_,fun x n hx=>h.le.2 x n hx⟩,fun r hr=>?_,h.ap⟩
 ·by_cases e:x=b
  ·subst e;rw [St.Xd] at hx ⊢;exact hx
  ·rw [St.Xj (Ne.symm e)] at hx ⊢
   exact h.le.1 x c (by rw [St.Xj (Ne.symm e)];exact hx)
 ·have:=h.ok r hr
  obtain ⟨o,l⟩:=r
  cases o with
  |any=>exact this
  |full=>exact this
  |tok t=>
   have hb:b≠t:=by
    rintro rfl
    have:=this.1.1
    rw [St.Xd] at this;cases this
   exact ⟨⟨by rw [St.Xj hb];have:=this.1.1;rw [St.Xj hb] at this;exact this,this.1.2⟩,this.2⟩
end
structure Cx (st0:St) (b:Nat) (s:Sta) (st:St) (rows:List (Own×List Nd)):Prop where
 has:Has st b s
 rx:∃cs,Rx (st0.setBox b cs) st rows
 mu:mu s≤100000000
structure Cy (st0:St) (b:Nat) (s:Sta) (st:St) (rows:List (Own×List Nd)):Prop where
 has:Has st b s
 rx:∃cs,Rx (st0.setBox b cs) st rows
section
variable {st0 st st':St} {b:Nat} {s s':Sta} {r q:Own×List Nd} {rows:List (Own×List Nd)}
theorem Cx.y (h:Cx st0 b s st rows):Cy st0 b s st rows:=⟨h.has,h.rx⟩
theorem Cy.drop (h:Cy st0 b s st (r::rows)):Cy st0 b s st rows:=⟨h.has,h.rx.imp fun _ e=>e.drop⟩
theorem Cx.sety (h:Cx st0 b s st rows) (hu:Upd st st' b s'):Cy st0 b s' st' rows:=by
 obtain ⟨h1,cs,rfl⟩:=hu
 obtain ⟨c0,hr⟩:=h.rx
 exact ⟨h1,⟨cs,hr.setBox⟩⟩
theorem Cx.hb (h:Cx st0 b s st rows):s.opn.length≤500000000:=Zw h.mu
theorem Cx.start (h:Has st b s) (hm:Proofs.YtkidoddkbhchkaaGreatDoor.mu s≤100000000):Cx st b s st []:=
 ⟨h,by
   rcases h with e|⟨_,_,_,_,_,e⟩
   all_goals exact ⟨_,by rw [St.set_self e];exact Rx.start⟩,hm⟩
theorem Cx.drop (h:Cx st0 b s st (r::rows)):Cx st0 b s st rows:=⟨h.has,h.rx.imp fun _ e=>e.drop,h.mu⟩
theorem Cx.push (h:Cx st0 b s st rows) (l:List Nd):Cx st0 b s st ((.full,l)::rows):=⟨h.has,h.rx.imp fun _ e=>e.push l,h.mu⟩
theorem Cx.swap (h:Cx st0 b s st (r::q::rows)):Cx st0 b s st (q::r::rows):=⟨h.has,h.rx.imp fun _ e=>e.swap,h.mu⟩
theorem Cx.set (h:Cx st0 b s st rows) (hu:Upd st st' b s') (hm:Proofs.YtkidoddkbhchkaaGreatDoor.mu s'≤100000000):Cx st0 b s' st' rows:=by
 obtain ⟨h1,cs,rfl⟩:=hu
 obtain ⟨c0,hr⟩:=h.rx
 exact ⟨h1,⟨cs,hr.setBox⟩,hm⟩
theorem Cx.upd (h:Cx st0 b s st rows) (hu:Upd st st' b s') (hm:Proofs.YtkidoddkbhchkaaGreatDoor.mu s'≤Proofs.YtkidoddkbhchkaaGreatDoor.mu s):Cx st0 b s' st' rows:=h.set hu (Nat.le_trans hm h.mu)
theorem Cx.look (h:Cx st0 b s st rows):Cx st0 b s (st.setBox b (lookC s)) rows:=h.upd Xx (Nat.le_refl _)
theorem Cx.freshb {t:Nat} (h:Cx st0 b s st rows) (ht:st.fresh t):st0.box t=none∧t≠b:=by
 obtain ⟨c0,hr⟩:=h.rx
 have hb:t≠b:=by
  rintro rfl
  rcases h.has with e|⟨_,_,_,_,_,e⟩<;>(rw [ht.1] at e;cases e)
 have:=(hr.fresh ht).1
 rw [St.Xj hb.symm] at this
 exact ⟨this,hb⟩
theorem Cx.rebase {c:Nat} {z cs:List V} (h:Cx st0 b s st rows) (hf:st.fresh c):Cx (st0.setBox c cs) b s ((st.setBox c z).setBox c cs) rows:=by
 have hb:=(h.freshb hf).2
 rw [St.set_set]
 obtain ⟨c0,hr⟩:=h.rx
 refine ⟨?_,⟨c0,⟨fun x v hx=>?_,fun x n hx=>hr.le.2 x n hx⟩,fun r hr'=>?_,hr.ap⟩,h.mu⟩
 ·rcases h.has with e|⟨q1,q2,q3,q4,q5,e⟩
  ·exact .inl (by rw [St.Xj hb];exact e)
  ·exact .inr ⟨q1,q2,q3,q4,q5,by rw [St.Xj hb];exact e⟩
 ·by_cases e:x=c
  ·subst e
   rw [St.Xj hb.symm,St.Xd] at hx
   rw [St.Xd];exact hx
  ·rw [St.Xj (Ne.symm e)]
   by_cases e2:x=b
   ·subst e2
    rw [St.Xd] at hx
    exact hr.le.1 x v (by rw [St.Xd];exact hx)
   ·rw [St.Xj (Ne.symm e2),St.Xj (Ne.symm e)] at hx
    exact hr.le.1 x v (by rw [St.Xj (Ne.symm e2)];exact hx)
 ·have hk:=hr.ok r hr'
  obtain ⟨o,l⟩:=r
  cases o with
  |any=>exact hk
  |full=>exact hk
  |tok t=>
   have htc:t≠c:=by
    rintro rfl
    have:=hk.2
    rw [hf.2] at this;cases this
   have h1:=hk.1.1
   have htb:t≠b:=by
    rintro rfl
    rw [St.Xd] at h1;cases h1
   rw [St.Xj htb.symm] at h1
   exact ⟨⟨by rw [St.Xj htb.symm,St.Xj htc.symm];exact h1,hk.1.2⟩,hk.2⟩
theorem Cx.rebase1 {c:Nat} {cs:List V} (h:Cx st0 b s st rows) (hf:st.fresh c):Cx (st0.setBox c cs) b s (st.setBox c cs) rows:=by
 have:=h.rebase (z:=cs) (cs:=cs) hf
 rw [St.set_set] at this;exact this
theorem Rx.unbox {c:Nat} {cs:List V} (h:Rx (st0.setBox c cs) st rows) (hf:st0.box c=none):Rx st0 st rows:=by
 refine ⟨⟨fun x v hx=>?_,h.le.2⟩,fun r hr=>?_,h.ap⟩
 ·have:x≠c:=by rintro rfl;rw [hf] at hx;cases hx
  exact h.le.1 x v (by rw [St.Xj this.symm];exact hx)
 ·have hk:=h.ok r hr
  obtain ⟨o,l⟩:=r
  cases o with
  |any=>exact hk
  |full=>exact hk
  |tok t=>
   have h1:=hk.1.1
   have:t≠c:=by rintro rfl;rw [St.Xd] at h1;cases h1
   rw [St.Xj this.symm] at h1
   exact ⟨⟨h1,hk.1.2⟩,hk.2⟩
theorem Xgs {c:Nat} {cs cs':List V} (h:c≠b):(st0.setBox c cs).setBox b cs'=(st0.setBox b cs').setBox c cs:=by
 simp only [St.setBox,St.mk.injEq,and_true]
 funext x
 by_cases e:x=b
 ·subst e;rw [if_pos rfl,if_neg (Ne.symm h),if_pos rfl]
 ·rw [if_neg e]
  split
  ·rfl
  ·rfl
theorem Cx.unbox {c:Nat} {cs:List V} (h:Cx (st0.setBox c cs) b s st rows) (hf:st0.box c=none∧c≠b):Cx st0 b s st rows:=
 ⟨h.has,h.rx.imp fun c0 hr=>by rw [Xgs hf.2] at hr;exact hr.unbox (by rw [St.Xj hf.2.symm];exact hf.1),h.mu⟩
theorem Cy.unbox {c:Nat} {cs:List V} (h:Cy (st0.setBox c cs) b s st rows) (hf:st0.box c=none∧c≠b):Cy st0 b s st rows:=
 ⟨h.has,h.rx.imp fun c0 hr=>by rw [Xgs hf.2] at hr;exact hr.unbox (by rw [St.Xj hf.2.symm];exact hf.1)⟩
theorem Has.eq (h:Has st b s) (e:st'.box=st.box):Has st' b s:=by unfold Has at h ⊢;rw [e];exact h
theorem Cx.app {own:Own} {l new:List Nd} {K:V→St→Prop} (h:Cx st0 b s st ((own,l)::rows)) (hb:l.length+new.length≤1000000000)
 (k:∀own' st',Cx st0 b s st' ((own',l++new)::rows)→K (.slice 6 ((l++new).map encN) own') st'):appendTo 6 72 (l.map encN) own (new.map encN) st K:=by
 obtain ⟨c0,hr⟩:=h.rx
 exact hr.app hb fun own' st' e hr'=>k own' st' ⟨h.has.eq e,⟨c0,hr'⟩,h.mu⟩
theorem Cx.app1 {own:Own} {l:List Nd} {x:Nd} {K:V→St→Prop} (h:Cx st0 b s st ((own,l)::rows)) (hb:l.length+1≤1000000000)
 (k:∀own' st',Cx st0 b s st' ((own',l++[x])::rows)→K (.slice 6 ((l++[x]).map encN) own') st'):appendTo 6 72 (l.map encN) own [encN x] st K:=h.app (new:=[x]) hb k
theorem Cx.app2 {own:Own} {l:List Nd} {x y:Nd} {K:V→St→Prop} (h:Cx st0 b s st ((own,l)::rows)) (hb:l.length+2≤1000000000)
 (k:∀own' st',Cx st0 b s st' ((own',l++[x,y])::rows)→K (.slice 6 ((l++[x,y]).map encN) own') st'):appendTo 6 72 (l.map encN) own [encN x,encN y] st K:=h.app (new:=[x,y]) hb k
theorem Rx.app1 {own:Own} {l:List Nd} {x:Nd} {K:V→St→Prop} (h:Rx st0 st ((own,l)::rows)) (hb:l.length+1≤1000000000)
 (k:∀own' st',Rx st0 st' ((own',l++[x])::rows)→K (.slice 6 ((l++[x]).map encN) own') st'):appendTo 6 72 (l.map encN) own [encN x] st K:=h.app (new:=[x]) hb fun own' st' _ c=>k own' st' c
end
structure RdC {α:Type} (en:α→V) (f:FuncId) (mk:Nat→List V) (A:Rd α):Prop where
 ap:∀{st0:St} {b:Nat} {s:Sta} {st:St} {rows:List (Own×List Nd)} {K:Res→St→Prop},Cx st0 b s st rows→
 Rd.wp A s (fun v s'=>∀st',Cx st0 b s' st' rows→K (.ret (en v)) st') (fun e s'=>∀st',Cy st0 b s' st' rows→K (.pan (fault e.1)) st')→PC f (mk b) st K
theorem RdC.go {α:Type} {en:α→V} {f:FuncId} {mk:Nat→List V} {A:Rd α} {st0:St} {b:Nat} {s:Sta} {st:St} {rows:List (Own×List Nd)} {K:Res→St→Prop} {Q:α→Sta→Prop} {E:Er→Sta→Prop} (hf:RdC en f mk A) (hc:Cx st0 b s st rows) (h:Rd.wp A s Q E)
 (k:∀v s' st',A.run s=.inr (v,s')→mu s'≤mu s→Cx st0 b s' st' rows→Q v s'→K (.ret (en v)) st') (kb:∀e s' st',Cy st0 b s' st' rows→E e s'→K (.pan (fault e.1)) st'):PC f (mk b) st K:=
 hf.ap hc (Rd.wp_mono h (fun v s' r q st' c=>k v s' st' r (A.le _ _ _ r) c q) (fun e s' _ q st' c=>kb e s' st' c q))
theorem RdC.gof {α:Type} {en:α→V} {f:FuncId} {mk:Nat→List V} {A:Rd α} {st0:St} {b:Nat} {s:Sta} {st:St} {rows:List (Own×List Nd)} {K:Res→St→Prop} {Q:α→Sta→Prop} {E:Er→Sta→Prop} (hf:RdC en f mk A) (hF:Rd.Falls A) (hc:Cx st0 b s st rows) (h:Rd.wp A s Q E)
 (k:∀v s' st',A.run s=.inr (v,s')→mu s'<mu s→Cx st0 b s' st' rows→Q v s'→K (.ret (en v)) st') (kb:∀e s' st',Cy st0 b s' st' rows→E e s'→K (.pan (fault e.1)) st'):PC f (mk b) st K:=
 hf.go hc h (fun v s' st' r m c q=>k v s' st' r (hF _ _ _ r) c q) kb
structure RdL {α:Type} (en:α→Own→V) (ls:α→List Nd) (f:FuncId) (mk:Nat→List V) (A:Rd α):Prop where
 ap:∀{st0:St} {b:Nat} {s:Sta} {st:St} {rows:List (Own×List Nd)} {K:Res→St→Prop},Cx st0 b s st rows→
 Rd.wp A s (fun v s'=>∀own st',Cx st0 b s' st' ((own,ls v)::rows)→K (.ret (en v own)) st') (fun e s'=>∀st',Cy st0 b s' st' rows→K (.pan (fault e.1)) st')→PC f (mk b) st K
theorem RdL.go {α:Type} {en:α→Own→V} {ls:α→List Nd} {f:FuncId} {mk:Nat→List V} {A:Rd α} {st0:St} {b:Nat} {s:Sta} {st:St} {rows:List (Own×List Nd)} {K:Res→St→Prop} {Q:α→Sta→Prop} {E:Er→Sta→Prop} (hf:RdL en ls f mk A) (hc:Cx st0 b s st rows) (h:Rd.wp A s Q E)
 (k:∀v own s' st',A.run s=.inr (v,s')→mu s'≤mu s→Cx st0 b s' st' ((own,ls v)::rows)→Q v s'→K (.ret (en v own)) st') (kb:∀e s' st',Cy st0 b s' st' rows→E e s'→K (.pan (fault e.1)) st'):PC f (mk b) st K:=
 hf.ap hc (Rd.wp_mono h (fun v s' r q own st' c=>k v own s' st' r (A.le _ _ _ r) c q) (fun e s' _ q st' c=>kb e s' st' c q))
structure RdP (f:FuncId) (mk:Nat→V→List V) (A:List Nd→Rd (List Nd)):Prop where
 ap:∀{st0:St} {b:Nat} {s:Sta} {st:St} {rows:List (Own×List Nd)} {K:Res→St→Prop} {own:Own} {l:List Nd},l.length≤90000000→Cx st0 b s st ((own,l)::rows)→
 Rd.wp (A l) s (fun l' s'=>∀own' st',Cx st0 b s' st' ((own',l')::rows)→K (.ret (.slice 6 (l'.map encN) own')) st') (fun e s'=>∀st',Cy st0 b s' st' rows→K (.pan (fault e.1)) st')→PC f (mk b (.slice 6 (l.map encN) own)) st K
theorem RdP.go {f:FuncId} {mk:Nat→V→List V} {A:List Nd→Rd (List Nd)} {st0:St} {b:Nat} {s:Sta} {st:St} {rows:List (Own×List Nd)} {K:Res→St→Prop} {Q:List Nd→Sta→Prop} {E:Er→Sta→Prop} {own:Own} {l:List Nd} (hf:RdP f mk A) (hl:l.length≤90000000) (hc:Cx st0 b s st ((own,l)::rows)) (h:Rd.wp (A l) s Q E)
 (k:∀l' own' s' st',(A l).run s=.inr (l',s')→mu s'≤mu s→Cx st0 b s' st' ((own',l')::rows)→Q l' s'→K (.ret (.slice 6 (l'.map encN) own')) st') (kb:∀e s' st',Cy st0 b s' st' rows→E e s'→K (.pan (fault e.1)) st'):PC f (mk b (.slice 6 (l.map encN) own)) st K:=
 hf.ap hl hc (Rd.wp_mono h (fun v s' r q own st' c=>k v own s' st' r ((A l).le _ _ _ r) c q) (fun e s' _ q st' c=>kb e s' st' c q))
theorem Zj {st0:St} {b:Nat} {s:Sta} {st:St} {rows:List (Own×List Nd)} {K:Res→St→Prop} {r r':Res} (hc:Cx st0 b s st rows) (h:∀st',Cx st0 b s st' rows→K r st') (e:r=r'.wk):∃r2 st2,(r2=r'∨r2=r'.wk)∧St.le st2 st∧K r2 st2:=⟨r,st,.inr e,St.le_refl _,h st hc⟩
theorem Qx {st0:St} {b:Nat} {s:Sta} {st:St} {rows:List (Own×List Nd)} {K:Res→St→Prop} {e:Int} (hc:Cy st0 b s st rows) (h:∀st',Cy st0 b s st' rows→K (.pan (fault e)) st'):∃r2 st2,(r2=.pan (fault e)∨r2=(Res.pan (fault e)).wk)∧St.le st2 st∧K r2 st2:=⟨_,st,.inl rfl,St.le_refl _,h st hc⟩
theorem Xe1 {c:Bool} {P Q p q:Prop} (h:if c=true then P else Q) (k1:c=true→P→p) (k2:c=false→Q→q):bcase c p q:=Wk (fun e=>k1 e (by rw [if_pos e] at h;exact h)) (fun e=>k2 e (by rw [if_neg (by rw [e];decide)] at h;exact h))
theorem Xjb {α:Type} [BEq α] [LawfulBEq α] {a b:α} {P Q p q:Prop} (h:if (a==b)=true then P else Q) (k1:a=b→P→p) (k2:¬a=b→Q→q):bcase (a==b) p q:=
 Wg (fun e=>k1 e (by rw [if_pos (beq_iff_eq.2 e)] at h;exact h)) (fun e=>k2 e (by rw [if_neg (fun x=>e (beq_iff_eq.1 x))] at h;exact h))
theorem Xja {c:Prop} [Decidable c] {P Q p q:Prop} (h:if c then P else Q) (k1:c→P→p) (k2:¬c→Q→q):bcase (decide c) p q:=
 Wh (fun e=>k1 e (by rw [if_pos e] at h;exact h)) (fun e=>k2 e (by rw [if_neg e] at h;exact h))
theorem bc_yes {b:Bool} {p q:Prop} (h:b=true) (k:p):bcase b p q:=Wk (fun _=>k) (fun e=>by rw [h] at e;cases e)
theorem bc_no {b:Bool} {p q:Prop} (h:b=false) (k:q):bcase b p q:=Wk (fun e=>by rw [h] at e;cases e) (fun _=>k)
structure LS (σ:Type) where
 x:σ
 s:Sta
 m:St
 o:Own
theorem Qs {σ β:Type} {ih:(AExit→Env→St→Prop)→Env→St→Prop} {Q0:AExit→Env→St→Prop} {env:Env} {st0 st:St} {b:Nat} {s:Sta} {Q:β→Sta→Prop} {E:Er→Sta→Prop} {body:σ→Rd (Sum σ β)} {x0:σ}
 (f:σ→Own→List (Nat×V)) (g:σ→Own→List (Nat×List V)) (keep kb:List Nat) (rw:σ→Own→List (Own×List Nd)) (wt:σ→Nat) (own0:Own) (hc:Cx st0 b s st (rw x0 own0)) (h:Rd.wp (Rd.loop body x0) s Q E) (hl:wt x0+4*mu s≤500000000)
 (he:(env.atx (f x0 own0) (g x0 own0) keep kb).leC env)
 (hb:∀x s1 st1 own1,Cx st0 b s1 st1 (rw x own1)→Rd.wp (body x) s1 (Rd.again body s1 Q E) E→wt x+4*mu s1≤500000000→mu s1≤mu s→
   ih (thenQ (fun env' st'=>∃y:LS σ,(Cx st0 b y.s y.m (rw y.x y.o)∧Rd.wp (Rd.loop body y.x) y.s Q E∧wt y.x+4*mu y.s≤500000000∧mu y.s≤mu s)∧mu y.s<mu s1∧(env.atx (f y.x y.o) (g y.x y.o) keep kb).leC env'∧St.le y.m st') Q0)
    (env.atx (f x own1) (g x own1) keep kb) st1):
 ∃(α:Type) (E:α→Env) (S:α→St) (J:α→Prop) (μ:α→Nat) (x0:α),J x0∧(E x0).leC env∧St.le (S x0) st∧
  ∀x,J x→ih (thenQ (fun env' st'=>∃y,J y∧μ y<μ x∧(E y).leC env'∧St.le (S y) st') Q0) (E x) (S x):=
 ⟨LS σ,fun y=>env.atx (f y.x y.o) (g y.x y.o) keep kb,fun y=>y.m,
   fun y=>Cx st0 b y.s y.m (rw y.x y.o)∧Rd.wp (Rd.loop body y.x) y.s Q E∧wt y.x+4*mu y.s≤500000000∧mu y.s≤mu s,fun y=>mu y.s,⟨x0,s,st,own0⟩,⟨hc,h,hl,Nat.le_refl _⟩,he,St.le_refl _,
   fun y ⟨j1,j2,j3,j4⟩=>hb y.x y.s y.m y.o j1 (by rw [←Rd.wp_loop];exact j2) j3 j4⟩
section
variable {st0 st:St} {b:Nat} {s:Sta} {rows:List (Own×List Nd)} {K:Res→St→Prop}
theorem Qf (hc:Cx st0 b s st rows) (k:∀st',Cx st0 b s st' rows→K (.ret (encT (nextM s).1)) st'):PC 135 [.ptr b 0] st K:=Je hc.has hc.hb (k _ hc.look)
theorem is_x {k:Int} {x:List UInt8} (hc:Cx st0 b s st rows) (kk:∀st',Cx st0 b s st' rows→K (.ret (.bool (isF s k x))) st'):PC 98 [.ptr b 0,.int .i64 k,.str x] st K:=is_c hc.has hc.hb (kk _ hc.look)
theorem Qz {k:Int} {x:List UInt8} (hc:Cx st0 b s st rows) (e:isF s k x=true) (kk:∀st',Cx st0 b s st' rows→K (.ret (.bool true)) st'):PC 98 [.ptr b 0,.int .i64 k,.str x] st K:=is_x hc (by rw [e];exact kk)
theorem Zz {k:Int} {x:List UInt8} (hc:Cx st0 b s st rows) (e:isF s k x=false) (kk:∀st',Cx st0 b s st' rows→K (.ret (.bool false)) st'):PC 98 [.ptr b 0,.int .i64 k,.str x] st K:=is_x hc (by rw [e];exact kk)
theorem ZH {k:Int} {x:List UInt8} {P Q:Prop} (hc:Cx st0 b s st rows) (h:if isF s k x=true then P else Q) (k1:∀st',Cx st0 b s st' rows→isF s k x=true→P→K (.ret (.bool true)) st') (k2:∀st',Cx st0 b s st' rows→isF s k x=false→Q→K (.ret (.bool false)) st'):
 PC 98 [.ptr b 0,.int .i64 k,.str x] st K:=by
 cases e:isF s k x with
 |true=>exact Qz hc e fun st' c=>k1 st' c e (by rw [if_pos e] at h;exact h)
 |false=>exact Zz hc e fun st' c=>k2 st' c e (by rw [if_neg (by rw [e];decide)] at h;exact h)
theorem XC:RdC enc 100 (fun b=>[.ptr b 0]) takeR:=by
 refine ⟨fun {st0 b s st rows K} hc h=>?_⟩
 refine Xas hc.has hc.hb (fun e st' hu=>?_) (fun e=>?_)
 ·unfold Rd.wp at h;rw [Ql e] at h;exact h st' (hc.upd hu (Zu e).1)
 ·unfold Rd.wp at h;rw [He e] at h;exact h _ hc.look.y
theorem take_at {k:Int} {x:List UInt8} {Q:Nd→Sta→Prop} {E:Er→Sta→Prop} (hc:Cx st0 b s st rows) (h:Rd.wp takeR s Q E) (e:isF s k x=true) (hk:k≠0∧k≠21) (kk:∀s' st',(nextM s).2.1=s'→mu s'<mu s→Cx st0 b s' st' rows→Q (leafT (nextM s).1) s'→K (.ret (enc (leafT (nextM s).1))) st'):
 PC 100 [.ptr b 0] st K:=by
 unfold Rd.wp at h
 rw [Xnp e hk.1] at h
 have hlt:=Qq e hk.1 hk.2
 exact Xas hc.has hc.hb (fun _ st' hu=>kk _ st' rfl hlt (hc.upd hu (Nat.le_of_lt hlt)) h) (fun n=>absurd (Jp e hk.1) n)
theorem XD {Q:Nd→Sta→Prop} {E:Er→Sta→Prop} (hc:Cx st0 b s st rows) (h:Rd.wp takeR s Q E) (hk:(nextM s).1.kind≠0∧(nextM s).1.kind≠21) (kk:∀s' st',(nextM s).2.1=s'→mu s'<mu s→Cx st0 b s' st' rows→Q (leafT (nextM s).1) s'→K (.ret (enc (leafT (nextM s).1))) st'):
 PC 100 [.ptr b 0] st K:=by
 have e:=QF hk.1
 unfold Rd.wp at h
 rw [Ql e] at h
 have hlt:=(Zu e).2 hk.2
 exact Xas hc.has hc.hb (fun _ st' hu=>kk _ st' rfl hlt (hc.upd hu (Nat.le_of_lt hlt)) h) (fun n=>absurd e n)
theorem Jk {α:Type} {Q:α→Sta→Prop} {E:Er→Sta→Prop} (hc:Cx st0 b s st rows) (h:Rd.wp (badR:Rd α) s Q E) (kb:∀e s' st',Cy st0 b s' st' rows→E e s'→K (.pan (fault e.1)) st'):PC 191 [.ptr b 0] st K:=
 bad_c hc.has hc.hb (kb _ _ _ hc.look.y h)
theorem XM {k:Int} {x:List UInt8}:RdC enc 167 (fun b=>[.ptr b 0,.int .i64 k,.str x]) (wantR k x):=by
 refine ⟨fun {st0 b s st rows K} hc h=>?_⟩
 unfold wantR at h
 rw [Rd.Xi,Rd.Xy] at h
 refine XnA hc.has hc.hb (fun e1 e2 st' hu=>?_) (fun e1 e2=>?_) (fun e1=>?_)
 ·rw [if_pos e1] at h
  unfold Rd.wp at h;rw [Ql e2] at h;exact h st' (hc.upd hu (Zu e2).1)
 ·rw [if_pos e1] at h
  unfold Rd.wp at h;rw [He e2] at h;exact h _ hc.look.y
 ·rw [if_neg (by rw [e1];decide)] at h
  exact h _ hc.look.y
theorem go_x {s':Sta} (hc:Cx st0 b s st rows) (hm:mu s'≤100000000) (k:∀st',Cx st0 b s' st' rows→K (.ret (.tup [])) st'):PC 234 [.ptr b 0,encS s'] st K:=go_c hc.has fun st' hu=>k st' (hc.set hu hm)
theorem VF {Q:Unit→Sta→Prop} {E:Er→Sta→Prop} (hc:Cx st0 b s st rows) (h:Rd.wp skipR s Q E) (hk:(nextM s).1.kind≠0∧(nextM s).1.kind≠21) (kk:∀s' st',(nextM s).2.1=s'→mu s'<mu s→Cx st0 b s' st' rows→Q () s'→K (.ret (encT (nextM s).1)) st'):
 PC 161 [.ptr b 0] st K:=by
 have e:=QF hk.1
 unfold skipR at h
 rw [Rd.wp_seq] at h
 unfold Rd.wp at h
 rw [Ql e] at h
 have hlt:=(Zu e).2 hk.2
 exact XhA hc.has hc.hb (fun _ st' hu=>kk _ st' rfl hlt (hc.upd hu (Nat.le_of_lt hlt)) h) (fun n=>absurd e n)
theorem XiV {k:Int} {x:List UInt8} {Q:Unit→Sta→Prop} {E:Er→Sta→Prop} {P:Prop} (hc:Cx st0 b s st rows) (h:if isF (nextM s).2.1 k x=true then Rd.wp skipR s Q E else P) (hk:(nextM s).1.kind≠0∧(nextM s).1.kind≠21)
 (kk:∀s' st',mu s'<mu s→Cx st0 b s' st' rows→(if isF s' k x=true then Q () s' else P)→K (.ret (encT (nextM s).1)) st'):PC 161 [.ptr b 0] st K:=by
 have e:=QF hk.1
 have hlt:=(Zu e).2 hk.2
 refine XhA hc.has hc.hb (fun _ st' hu=>kk _ st' hlt (hc.upd hu (Nat.le_of_lt hlt)) ?_) (fun n=>absurd e n)
 split
 ·rename_i hi
  rw [if_pos hi] at h
  unfold skipR at h
  rw [Rd.wp_seq] at h
  unfold Rd.wp at h
  rw [Ql e] at h
  exact h
 ·rename_i hi
  rw [if_neg hi] at h;exact h
theorem go_back {s0:Sta} (hc:Cx st0 b s st rows) (hm:mu s0≤100000000) (k:∀st',Cx st0 b s0 st' rows→K (.ret (.tup [])) st'):PC 234 [.ptr b 0,.agg s0.cells] st K:=go_x hc hm k
theorem take_x (hc:Cx st0 b s st rows) (hk:(nextM s).1.kind≠0∧(nextM s).1.kind≠21) (kk:∀s' st',(nextM s).2.1=s'→mu s'<mu s→Cx st0 b s' st' rows→K (.ret (enc (leafT (nextM s).1))) st'):PC 100 [.ptr b 0] st K:=by
 have e:=QF hk.1
 have hlt:=(Zu e).2 hk.2
 exact Xas hc.has hc.hb (fun _ st' hu=>kk _ st' rfl hlt (hc.upd hu (Nat.le_of_lt hlt))) (fun n=>absurd e n)
end
theorem Yd0 {c:Bool} {p q:Prop} {A:Prop} (k:A) (h:A→bcase c p q:=by with_reducible first|exact fun k=>Wt (by first|assumption|omega) k|exact fun k=>Wu (by first|assumption|omega) k|exact fun k=>Wv (by omega) k|exact fun k=>Ww (by omega) k|exact fun k=>bc_yes (by assumption) k|exact fun k=>bc_no (by assumption) k|exact fun k=>Wi k|exact fun k=>Wj k|fail):bcase c p q:=h k
theorem Yd1 {c:Bool} {p q:Prop} {A B:Prop} (k:A) (l:B) (h:A→B→bcase c p q:=by with_reducible first|exact fun k l=>Xjb h k l|exact fun k l=>Xja h k l|exact fun k l=>Xe1 h k l|fail):bcase c p q:=h k l
theorem Yd2 {c:Bool} {p q:Prop} {A B:Prop} (k:A) (l:B) (h:A→B→bcase c p q:=by with_reducible first|exact fun k l=>Wf (by decide) k l|exact fun k l=>Wg k l|exact fun k l=>Wh k l|exact fun k l=>Wk k l|fail):bcase c p q:=h k l
theorem Xf {p:Env→Prop} (h:∀e,p e):∀e:Env,p e:=h
theorem at_cst {es:List (List V)} {i:Int} {e:List V} {K:List V→Prop} (h0:0≤i) (h:es[i.toNat]? =some e) (k:K e):0≤i∧∃e,es[i.toNat]? =some e∧K e:=⟨h0,e,h,k⟩
theorem Xmd {l:List Int} {i:Int} {x:Int} {K:List V→Prop} (h:l[i.toNat]? =some x) (h0:0≤i) (k:K [.int .i64 x]):0≤i∧∃e,(ints l)[i.toNat]? =some e∧K e:=⟨h0,_,by simp [ints,h],k⟩
theorem len_eq {α:Type} {es:List α} {n:Nat} {K:Nat→Prop} (h:es.length=n) (k:K n):∀m,m=es.length→m<lim→K m:=fun m hm _=>by rw [h] at hm;subst hm;exact k
section
variable {st:St} {K:Res→St→Prop}
theorem Vj {t:Tk} (h:K (.ret (.bool (symT t))) st):PC 249 [encT t] st K:=by
 refine Xa Xb [] Tryz.func249 rfl (by decide) ?_
 repeat' ((conv=>whnf);first|(with_reducible first|refine Yd0 ?_|(refine Yd1 ?_ ?_<;>intro e h)|(refine Yd2 ?_ ?_<;>intro _)))
 all_goals conv=>whnf
 all_goals (refine Xq h ?_;clear h;simp_all [symT])
theorem Vt {t:Tk} (h:K (.ret (.bool (infixF t))) st):PC 241 [encT t] st K:=by
 refine Xa Xb [] Tryz.func241 rfl (by decide) ?_
 repeat' ((conv=>whnf);first|(with_reducible first|refine Yd0 ?_|(refine Yd1 ?_ ?_<;>intro e h)|(refine Yd2 ?_ ?_<;>intro _))|refine Vj ?_)
 all_goals conv=>whnf
 all_goals (refine Xq h ?_;clear h;simp_all [infixF])
theorem JM {t:Tk} (h:K (.ret (.bool (atomicF t))) st):PC 170 [encT t] st K:=by
 refine Xa Xb [] Tryz.func170 rfl (by decide) ?_
 repeat' ((conv=>whnf);first|(with_reducible first|refine Yd0 ?_|(refine Yd1 ?_ ?_<;>intro e h)|(refine Yd2 ?_ ?_<;>intro _)))
 all_goals conv=>whnf
 all_goals (refine Xq h ?_;clear h;simp_all [atomicF])
theorem Xbx {t:Tk} (h:K (.ret (.bool (beginsF t))) st):PC 110 [encT t] st K:=by
 refine Xa Xb [] Tryz.func110 rfl (by decide) ?_
 repeat' ((conv=>whnf);first|(with_reducible first|refine Yd0 ?_|(refine Yd1 ?_ ?_<;>intro e h)|(refine Yd2 ?_ ?_<;>intro _))|refine JM ?_)
 all_goals conv=>whnf
 all_goals (refine Xq h ?_;clear h;simp_all [beginsF,atomicF,wLet,wIf,wCase,wDo])
theorem Xiq {t:Tk} (h:K (.ret (.bool (fixesF t))) st):PC 111 [encT t] st K:=by
 refine Xa Xb [] Tryz.func111 rfl (by decide) ?_
 repeat' ((conv=>whnf);first|(with_reducible first|refine Yd0 ?_|(refine Yd1 ?_ ?_<;>intro e h)|(refine Yd2 ?_ ?_<;>intro _)))
 all_goals conv=>whnf
 all_goals (refine Xq h ?_;clear h;simp_all [fixesF])
theorem XeB {t:Tk} (h:K (.ret (.bool (semiF t))) st):PC 168 [encT t] st K:=by
 refine Xa Xb [] Tryz.func168 rfl (by decide) ?_
 repeat' ((conv=>whnf);first|(with_reducible first|refine Yd0 ?_|(refine Yd1 ?_ ?_<;>intro e h)|(refine Yd2 ?_ ?_<;>intro _)))
 all_goals conv=>whnf
 all_goals (refine Xq h ?_;clear h;simp_all [semiF])
theorem XI {k:Int} {l:List Nd} {own:Own} (h:K (.ret (enc (nodeK k l))) st):PC 121 [.int .i64 k,.slice 6 (l.map encN) own] st K:=by
 refine Xa Xb [] Tryz.func121 rfl (by decide) ?_
 repeat' ((conv=>whnf);first|(with_reducible first|refine Yd0 ?_|(refine Yd1 ?_ ?_<;>intro e h)|(refine Yd2 ?_ ?_<;>intro _)))
 all_goals exact finl (St.le_refl _) Qp h
theorem XF {k:Int} {a:Nd} {own:Own} (h:K (.ret (enc (nodeK k [a]))) st):PC 121 [.int .i64 k,.slice 6 [encN a] own] st K:=XI (l:=[a]) h
theorem XG {k:Int} {a b:Nd} {own:Own} (h:K (.ret (enc (nodeK k [a,b]))) st):PC 121 [.int .i64 k,.slice 6 [encN a,encN b] own] st K:=XI (l:=[a,b]) h
theorem XE {k:Int} {a b c:Nd} {own:Own} (h:K (.ret (enc (nodeK k [a,b,c]))) st):PC 121 [.int .i64 k,.slice 6 [encN a,encN b,encN c] own] st K:=XI (l:=[a,b,c]) h
theorem XH {k:Int} {a b c d:Nd} {own:Own} (h:K (.ret (enc (nodeK k [a,b,c,d]))) st):PC 121 [.int .i64 k,.slice 6 [encN a,encN b,encN c,encN d] own] st K:=XI (l:=[a,b,c,d]) h
theorem XbT {k:Int} {l:List Nd} {own:Own} (h:K (.ret (enc (oneK k l))) st):PC 190 [.int .i64 k,.slice 6 (l.map encN) own] st K:=by
 refine Xa Xb [] Tryz.func190 rfl (by decide) ?_
 match l with
 |[x]=>
  have h:K (.ret (enc x)) st:=h
  have hn:(([x]:List Nd).length:Int)=1:=rfl
  repeat' ((conv=>whnf);first|(with_reducible first|refine Yd0 ?_|(refine Yd1 ?_ ?_<;>intro e h)|(refine Yd2 ?_ ?_<;>intro _)|refine Wl (fun _=>?_)|refine Wm (by assumption) (by omega) ?_|refine Wn (by omega) (by omega) (fun _ _ _=>?_)|refine Wz (fun _=>?_)|refine WA (fun _=>?_)|refine WB (by assumption) (by omega) ?_|refine WC (by omega) (by omega) (fun _ _=>?_)|refine WD (by omega) (by omega) (fun _ _=>?_))|refine Zl (l:=[x]) (fun _=>?_)|refine at_cst (by omega) rfl ?_)
  all_goals exact finw rfl h
 |[]=>
  have h:K (.ret (enc (nodeK k []))) st:=h
  have hn:¬(([]:List Nd).length:Int)=1:=by decide
  repeat' ((conv=>whnf);first|(with_reducible first|refine Yd0 ?_|(refine Yd1 ?_ ?_<;>intro e h)|(refine Yd2 ?_ ?_<;>intro _)|refine Wl (fun _=>?_)|refine Wm (by assumption) (by omega) ?_|refine Wn (by omega) (by omega) (fun _ _ _=>?_)|refine Wz (fun _=>?_)|refine WA (fun _=>?_)|refine WB (by assumption) (by omega) ?_|refine WC (by omega) (by omega) (fun _ _=>?_)|refine WD (by omega) (by omega) (fun _ _=>?_))|refine Zl (l:=[]) (fun _=>?_)|refine XI (l:=[]) ?_)
  all_goals exact finw rfl h
 |x::y::r=>
  have h:K (.ret (enc (nodeK k (x::y::r)))) st:=h
  have hn:¬((x::y::r).length:Int)=1:=by simp only [List.length_cons];omega
  repeat' ((conv=>whnf);first|(with_reducible first|refine Yd0 ?_|(refine Yd1 ?_ ?_<;>intro e h)|(refine Yd2 ?_ ?_<;>intro _)|refine Wl (fun _=>?_)|refine Wm (by assumption) (by omega) ?_|refine Wn (by omega) (by omega) (fun _ _ _=>?_)|refine Wz (fun _=>?_)|refine WA (fun _=>?_)|refine WB (by assumption) (by omega) ?_|refine WC (by omega) (by omega) (fun _ _=>?_)|refine WD (by omega) (by omega) (fun _ _=>?_))|refine Zl (l:=x::y::r) (fun _=>?_)|refine XI (l:=x::y::r) ?_)
  all_goals exact finw rfl h
theorem Xd8 {n:Nd} (h:K (.ret (.bool (mayFP n))) st):PC 124 [enc n] st K:=by
 refine Xa Xb [] Tryz.func124 rfl (by decide) ?_
 repeat' ((conv=>whnf);first|(with_reducible first|refine Yd0 ?_|(refine Yd1 ?_ ?_<;>intro e h)|(refine Yd2 ?_ ?_<;>intro _))|refine Xld ?_)
 all_goals conv=>whnf
 all_goals (refine Xq h ?_;clear h;simp_all [checkF])
theorem Xiw {n:Nd} (hl:n.size≤1000000000) (h:K (.ret (.bool (varN n))) st):PC 201 [enc n] st K:=by
 refine Xa Xb [] Tryz.func201 rfl (by decide) ?_
 have hs:(strs (namesE n).1).length=(namesE n).1.length:=by simp [strs]
 repeat' ((conv=>whnf);first|(with_reducible first|refine Yd0 ?_|(refine Yd1 ?_ ?_<;>intro e h)|(refine Yd2 ?_ ?_<;>intro _)|refine Wl (fun _=>?_)|refine Wz (fun _=>?_)|refine WA (fun _=>?_))|refine Xmy hl ?_|refine len_eq hs ?_)
 all_goals conv=>whnf
 all_goals (refine Xq h ?_;clear h;simp_all [varN])
end
theorem Xw {t:Tk} (h:atomicF t=true):t.kind≠0∧t.kind≠21:=by
 unfold atomicF at h
 simp only [Bool.or_eq_true,Bool.and_eq_true,beq_iff_eq] at h
 omega
theorem XJ {t:Tk} (h:symT t=true):t.kind≠0∧t.kind≠21:=by
 unfold symT at h
 simp only [Bool.or_eq_true,Bool.and_eq_true,beq_iff_eq] at h
 omega
theorem Xbg {t:Tk} (h:semiF t=true):t.kind≠0∧t.kind≠21:=by
 unfold semiF at h
 simp only [Bool.or_eq_true,Bool.and_eq_true,beq_iff_eq] at h
 omega
abbrev pv (b d:Nat):V:=.agg [.ptr b 0,.int .i64 (d:Int)]
section
variable {st0 st:St} {b d:Nat} {s:Sta} {rows:List (Own×List Nd)} {K:Res→St→Prop}
theorem XiM {x:List UInt8} (hc:Cx st0 b s st rows) (kk:∀st',Cx st0 b s st' rows→K (.ret (.bool (isF s 15 x))) st'):PC 137 [pv b d,.str x] st K:=by
 refine Xa Xb [] Tryz.func137 rfl (by decide) ?_
 repeat' ((conv=>whnf);first|(with_reducible first|refine Yd0 ?_|(refine Yd1 ?_ ?_<;>intro e h)|(refine Yd2 ?_ ?_<;>intro _))|refine is_x hc (fun st1 hc=>?_))
 all_goals conv=>whnf
 all_goals exact Xq (kk st1 hc) (by assumption)
theorem Qb {x:List UInt8} (hc:Cx st0 b s st rows) (e:isF s 15 x=true) (kk:∀st',Cx st0 b s st' rows→K (.ret (.bool true)) st'):PC 137 [pv b d,.str x] st K:=XiM hc (by rw [e];exact kk)
theorem Qr {x:List UInt8} (hc:Cx st0 b s st rows) (e:isF s 15 x=false) (kk:∀st',Cx st0 b s st' rows→K (.ret (.bool false)) st'):PC 137 [pv b d,.str x] st K:=XiM hc (by rw [e];exact kk)
theorem Qw {x:List UInt8} {P Q:Prop} (hc:Cx st0 b s st rows) (h:if isF s 15 x=true then P else Q) (k1:∀st',Cx st0 b s st' rows→isF s 15 x=true→P→K (.ret (.bool true)) st') (k2:∀st',Cx st0 b s st' rows→isF s 15 x=false→Q→K (.ret (.bool false)) st'):
 PC 137 [pv b d,.str x] st K:=by
 cases e:isF s 15 x with
 |true=>exact Qb hc e fun st' c=>k1 st' c e (by rw [if_pos e] at h;exact h)
 |false=>exact Qr hc e fun st' c=>k2 st' c e (by rw [if_neg (by rw [e];decide)] at h;exact h)
theorem Xix {ks:List Int} {own:Own} (h0:ks.contains 0=false):RdC enc 250 (fun b=>[.ptr b 0,.slice 1 (ints ks) own]) (kindR ks):=by
 refine ⟨fun {st0 b s st rows K} hc h=>?_⟩
 unfold kindR at h
 simp only [Rd.Xi,Rd.Xy] at h
 refine Xa Xb [] Tryz.func250 rfl (by decide) ?_
 repeat' ((conv=>whnf);first|(with_reducible first|refine Yd0 ?_|(refine Yd1 ?_ ?_<;>intro e h)|(refine Yd2 ?_ ?_<;>intro _)|refine Wl (fun _=>?_)|refine Wm (by assumption) (by omega) ?_|refine Wn (by omega) (by omega) (fun _ _ _=>?_)|refine Wq (by omega) (by omega) ?_|refine Wz (fun _=>?_)|refine WA (fun _=>?_)|refine WB (by assumption) (by omega) ?_|refine WC (by omega) (by omega) (fun _ _=>?_)|refine WD (by omega) (by omega) (fun _ _=>?_))|refine Qf hc (fun st1 hc=>?_)|refine take_at hc h (by assumption) (by decide) (fun s1 st1 hz hm hc h=>?_)|refine XD hc h (by first|exact Xw (by assumption)|exact XJ (by assumption)|omega) (fun s1 st1 hz hm hc h=>?_)|refine XC.go hc h (fun n s1 st1 hr hm hc h=>?_) (fun e s1 st1 hc h=>?_)|refine Jk hc h (fun e s1 st1 hc h=>?_)|exact Qx hc.y h|exact Qx hc.drop.y h|refine Zl (fun _=>?_)|refine Xf (fun e1=>?_)|exact ⟨⟨_,_,_,_⟩,⟨hc,Rd.JL h (by first|omega|(dsimp only<;>omega)),(by first|omega|(simp only [List.length_append,List.length_cons,List.length_nil]<;>omega)|(dsimp only<;>omega)),(by first|omega|(dsimp only<;>omega))⟩,(by first|omega|(dsimp only<;>omega)),(by refine ⟨rfl,?_,?_,rfl⟩<;>repeat' (first|exact trivial|exact rfl|refine And.intro ?_ ?_)),St.le_refl _⟩|exact ⟨_,_,.inl rfl,St.le_refl _,h _ _ hc⟩|exact Zj hc h rfl|exact Zj hc h Qp|exact Zj hc.drop h rfl|exact Zj hc.drop h Qp|exact Qx hc h|exact Qx hc.drop h|exact Qx hc.drop.drop h|refine WA (fun _=>?_))
 refine Xeh (α:=Nat×St) (fun x=>[(12,.int .i64 (x.1:Int))]) [0,4,5,10,11] [0,1] (fun x=>x.2) (fun x=>x.1≤ks.length∧Cx st0 b s x.2 rows∧ks.contains (nextM s).1.kind=(ks.drop x.1).contains (nextM s).1.kind) (fun x=>ks.length - x.1) (0,_) ⟨Nat.zero_le _,hc,rfl⟩ Yl (St.le_refl _) ?_
 rintro ⟨k,st2⟩ ⟨hk,hc2,hi⟩
 dsimp only at hk hc2 hi ⊢
 by_cases hlt:k<ks.length
 ·obtain ⟨x,hx⟩:∃x,ks[(k:Int).toNat]? =some x:=⟨_,List.getElem?_eq_getElem hlt⟩
  have hx':ks[k]? =some x:=hx
  rw [drop_at hx',List.contains_cons] at hi
  have hx1:=hx
  by_cases e:(nextM s).1.kind=x
  ·rw [beq_iff_eq.2 e,Bool.true_or] at hi
   rw [if_pos hi] at h
   have hkd:(nextM s).1.kind≠0:=fun z=>by rw [z] at hi;rw [h0] at hi;cases hi
   have hc:=hc2
   repeat' ((conv=>whnf);first|refine Xmd hx (by omega) ?_|(with_reducible first|refine Yd0 ?_|(refine Yd1 ?_ ?_<;>intro e h)|(refine Yd2 ?_ ?_<;>intro _)|refine Wl (fun _=>?_)|refine Wm (by assumption) (by omega) ?_|refine Wn (by omega) (by omega) (fun _ _ _=>?_)|refine Wq (by omega) (by omega) ?_|refine Wz (fun _=>?_)|refine WA (fun _=>?_)|refine WB (by assumption) (by omega) ?_|refine WC (by omega) (by omega) (fun _ _=>?_)|refine WD (by omega) (by omega) (fun _ _=>?_))|refine XC.go hc h (fun n s1 st1 hr hm hc h=>?_) (fun e s1 st1 hc h=>?_)|exact Zj hc h rfl|exact Qx hc h)
  ·rw [beq_eq_false_iff_ne.2 e,Bool.false_or] at hi
   repeat' ((conv=>whnf);first|refine Xmd hx (by omega) ?_|(with_reducible first|refine Yd0 ?_|(refine Yd1 ?_ ?_<;>intro e h)|(refine Yd2 ?_ ?_<;>intro _)|refine Wl (fun _=>?_)|refine Wm (by assumption) (by omega) ?_|refine Wn (by omega) (by omega) (fun _ _ _=>?_)|refine Wq (by omega) (by omega) ?_|refine Wz (fun _=>?_)|refine WA (fun _=>?_)|refine WB (by assumption) (by omega) ?_|refine WC (by omega) (by omega) (fun _ _=>?_)|refine WD (by omega) (by omega) (fun _ _=>?_)))
   all_goals conv=>whnf
   all_goals exact ⟨(k+1,st2),⟨hlt,hc2,hi⟩,Nat.sub_lt_sub_left hlt (Nat.lt_succ_self k),Yl,St.le_refl _⟩
 ·rw [List.drop_eq_nil_iff.2 (by omega)] at hi
  rw [if_neg (by rw [hi];exact Bool.false_ne_true)] at h
  have hc:=hc2
  repeat' ((conv=>whnf);first|(with_reducible first|refine Yd0 ?_|(refine Yd1 ?_ ?_<;>intro e h)|(refine Yd2 ?_ ?_<;>intro _)|refine Wl (fun _=>?_)|refine Wm (by assumption) (by omega) ?_|refine Wn (by omega) (by omega) (fun _ _ _=>?_)|refine Wq (by omega) (by omega) ?_|refine Wz (fun _=>?_)|refine WA (fun _=>?_)|refine WB (by assumption) (by omega) ?_|refine WC (by omega) (by omega) (fun _ _=>?_)|refine WD (by omega) (by omega) (fun _ _=>?_))|refine Jk hc h (fun e s1 st1 hc h=>?_)|exact Qx hc h)
theorem Xmf:RdC enc 250 (fun b=>[.ptr b 0,.slice 1 [[.int .i64 1],[.int .i64 2],[.int .i64 3],[.int .i64 4]] .full]) (kindR [1,2,3,4]):=Xix (ks:=[1,2,3,4]) (by decide)
theorem Xbb:RdC enc 199 (fun b=>[pv b d]) operR:=by
 refine ⟨fun {st0 b s st rows K} hc h=>?_⟩
 unfold operR at h
 simp only [Rd.Xi,Rd.Xy,Rd.wp_seq,Rd.wp_ret] at h
 refine Xa Xb [] Tryz.func199 rfl (by decide) ?_
 repeat' ((conv=>whnf);first|(with_reducible first|exact Wa|exact Wb|exact Wc|refine Wd (by kernel_rfl) ?_|refine We ?_ ?_ ?_|refine W8 (by decide +kernel) ?_ ?_ ?_|refine W0 (by decide +kernel) ?_ ?_ ?_|refine W9 ?_ ?_ ?_|refine Yd0 ?_|(refine Yd1 ?_ ?_<;>intro e h)|(refine Yd2 ?_ ?_<;>intro _))|refine Qf hc (fun st1 hc=>?_)|refine take_at hc h (by assumption) (by decide) (fun s1 st1 hz hm hc h=>?_)|refine XD hc h (by first|exact Xw (by assumption)|exact XJ (by assumption)|omega) (fun s1 st1 hz hm hc h=>?_)|refine XC.go hc h (fun n s1 st1 hr hm hc h=>?_) (fun e s1 st1 hc h=>?_)|refine XM.go hc h (fun n s1 st1 hr hm hc h=>?_) (fun e s1 st1 hc h=>?_)|exact Qx hc.y h|exact Qx hc.drop.y h|refine Vj ?_|refine XF ?_|refine XG ?_|refine XE ?_|refine XH ?_|refine XI ?_|refine Xf (fun e1=>?_)|exact ⟨⟨_,_,_,_⟩,⟨hc,Rd.JL h (by first|omega|(dsimp only<;>omega)),(by first|omega|(simp only [List.length_append,List.length_cons,List.length_nil]<;>omega)|(dsimp only<;>omega)),(by first|omega|(dsimp only<;>omega))⟩,(by first|omega|(dsimp only<;>omega)),(by refine ⟨rfl,?_,?_,rfl⟩<;>repeat' (first|exact trivial|exact rfl|refine And.intro ?_ ?_)),St.le_refl _⟩|exact ⟨_,_,.inl rfl,St.le_refl _,h _ _ hc⟩|exact Zj hc h rfl|exact Zj hc h Qp|exact Zj hc.drop h rfl|exact Zj hc.drop h Qp|exact Qx hc h|exact Qx hc.drop h|exact Qx hc.drop.drop h|refine Xmf.go hc h (fun n s1 st1 hr hm hc h=>?_) (fun e s1 st1 hc h=>?_)|refine Xk [(0,true),(1,true),(2,true),(3,true),(4,false),(5,true),(6,false),(7,false)] [1] (by decide +kernel) ?_|with_reducible refine WF ?_)
end
theorem Yr0 {r1:Res} {m1:St} {K1:Res→St→Prop} (h:∃r2 st2,(r2=r1∨r2=r1.wk)∧St.le st2 m1∧K1 r2 st2:=by first|exact Qx hc.y h|exact Qx hc.drop.y h|exact ⟨_,_,.inl rfl,St.le_refl _,h _ _ hc⟩|exact Zj hc h rfl|exact Zj hc h Qp|exact Zj hc.drop h rfl|exact Zj hc.drop h Qp|exact Qx hc h|exact Qx hc.drop h|exact Qx hc.drop.drop h|fail):∃r2 st2,(r2=r1∨r2=r1.wk)∧St.le st2 m1∧K1 r2 st2:=h
theorem Yr1 {σ:Type} {P:LS σ→Prop} (h:∃y,P y:=by first|exact ⟨⟨_,_,_,_⟩,⟨hc,Rd.JL h (by first|omega|(dsimp only<;>omega)),(by first|omega|(simp only [List.length_append,List.length_cons,List.length_nil]<;>omega)|(dsimp only<;>omega)),(by first|omega|(dsimp only<;>omega))⟩,(by first|omega|(dsimp only<;>omega)),Yl,St.le_refl _⟩|fail):∃y,P y:=h
theorem Yr2 {A:Prop} {e1 n1:List (List V)} {w1:Own} {m1:St} {K1:V→St→Prop} (k:A) (h:A→appendTo 6 72 e1 w1 n1 m1 K1:=by first|exact fun k=>hc.app1 (by first|omega|(simp only [List.length_append,List.length_cons,List.length_nil]<;>omega)) k|exact fun k=>Cx.app1 (hc.push _) (by first|omega|(simp only [List.length_append,List.length_cons,List.length_nil]<;>omega)) k|fail):appendTo 6 72 e1 w1 n1 m1 K1:=h k
theorem sym_ne {t:Tk} (h:symT t=true):t.kind≠21:=(XJ h).2
theorem Xb0:Rd.Falls operR:=Rd.Falls.look fun s v s' h=>by
 split at h
 ·rename_i hs
  exact Rd.Falls.at (fun v s' e=>Vk e (sym_ne hs)) h
 ·exact Rd.Falls.seq (Xb1 (by decide)) s v s' h
section
variable {st0 st:St} {b d:Nat} {s:Sta} {rows:List (Own×List Nd)} {K:Res→St→Prop}
attribute [local irreducible] Go.Aw.appendTo
theorem Xm9 {br:Bool} {opd:Rd Nd} (ho:RdC enc 240 (fun b=>[pv b d]) opd):RdL (fun p own=>.tup [.slice 6 (p.1.map encN) own,.bool p.2]) (·.1) 189 (fun b=>[pv b d,.bool br]) (erowR opd br):=by
 refine ⟨fun {st0 b s st rows K} hc h=>?_⟩
 unfold erowR at h
 refine Xa Xb [] Tryz.func189 rfl (by decide) ?_
 have hmu:=hc.mu
 repeat' ((conv=>whnf);first|(with_reducible first|refine Yd0 ?_|(refine Yd1 ?_ ?_<;>intro e h)|(refine Yd2 ?_ ?_<;>intro _)|refine Wq (by omega) (by omega) ?_|refine Wx (fun _=>?_) ?_|refine Wy (fun _=>?_) ?_))
 refine Qs (fun l own=>[(4,.slice 6 (l.map encN) own)]) (fun _ _=>[]) [1,2] [0] (fun l own=>(own,l)::rows) (fun l=>l.length) .full (hc.push []) h (by show 0+_≤_;omega) Yl ?_
 intro l s1 st1 own1 hc h hl hm1
 simp only [rowB,Rd.Xi,Rd.Xy,Rd.wp_seq,Rd.wp_ret,Rd.XT] at h
 repeat' ((conv=>whnf);first|(with_reducible first|refine Yd0 ?_|(refine Yd1 ?_ ?_<;>intro e h)|(refine Yd2 ?_ ?_<;>intro _)|refine Wq (by omega) (by omega) ?_|refine Wx (fun _=>?_) ?_|refine Wy (fun _=>?_) ?_))
 unfold minusR at h
 refine Qs (fun l own=>[(4,.slice 6 (l.map encN) own)]) (fun _ _=>[]) [1,2] [0] (fun l own=>(own,l)::rows) (fun l=>l.length) own1 hc h hl Yl ?_
 intro l2 s2 st2 own2 hc h hl hm2
 simp only [minusB,Rd.Xi,Rd.Xy,Rd.wp_seq,Rd.wp_ret,Rd.XT] at h
 cases br
 ·simp only [Bool.false_eq_true,if_false] at h
  repeat' ((conv=>whnf);first|(with_reducible first|refine Yd0 ?_|(refine Yd1 ?_ ?_<;>intro e h)|(refine Yd2 ?_ ?_<;>intro _)|refine Wq (by omega) (by omega) ?_|refine Wx (fun _=>?_) ?_|refine Wy (fun _=>?_) ?_)|refine Qz hc (by assumption) (fun st1 hc=>?_)|refine Zz hc (by assumption) (fun st1 hc=>?_)|refine ZH hc h (fun st1 hc e h=>?_) (fun st1 hc e h=>?_)|refine Qb hc (by assumption) (fun st1 hc=>?_)|refine Qr hc (by assumption) (fun st1 hc=>?_)|refine Qw hc h (fun st1 hc e h=>?_) (fun st1 hc e h=>?_)|refine Qf hc (fun st1 hc=>?_)|refine take_at hc h (by assumption) (by decide) (fun s1 st1 hz hm hc h=>?_)|refine XD hc h (by first|exact Xw (by assumption)|exact XJ (by assumption)|omega) (fun s1 st1 hz hm hc h=>?_)|refine XC.go hc h (fun n s1 st1 hr hm hc h=>?_) (fun e s1 st1 hc h=>?_)|exact Yr0|refine Vt ?_|refine XF ?_|refine XG ?_|refine XE ?_|refine XH ?_|refine XI ?_|(refine Yr2 ?_;intro own1 st1 hc)|refine Xf (fun e1=>?_)|exact Yr1|refine ho.go hc h (fun n s1 st1 hr hm hc h=>?_) (fun e s1 st1 hc h=>?_)|refine Xbb.gof Xb0 hc h (fun n s1 st1 hr hm hc h=>?_) (fun e s1 st1 hc h=>?_))
 ·simp only [if_true] at h
  repeat' ((conv=>whnf);first|(with_reducible first|refine Yd0 ?_|(refine Yd1 ?_ ?_<;>intro e h)|(refine Yd2 ?_ ?_<;>intro _)|refine Wq (by omega) (by omega) ?_|refine Wx (fun _=>?_) ?_|refine Wy (fun _=>?_) ?_)|refine Qz hc (by assumption) (fun st1 hc=>?_)|refine Zz hc (by assumption) (fun st1 hc=>?_)|refine ZH hc h (fun st1 hc e h=>?_) (fun st1 hc e h=>?_)|refine Qb hc (by assumption) (fun st1 hc=>?_)|refine Qr hc (by assumption) (fun st1 hc=>?_)|refine Qw hc h (fun st1 hc e h=>?_) (fun st1 hc e h=>?_)|refine Qf hc (fun st1 hc=>?_)|refine take_at hc h (by assumption) (by decide) (fun s1 st1 hz hm hc h=>?_)|refine XD hc h (by first|exact Xw (by assumption)|exact XJ (by assumption)|omega) (fun s1 st1 hz hm hc h=>?_)|refine XC.go hc h (fun n s1 st1 hr hm hc h=>?_) (fun e s1 st1 hc h=>?_)|exact Yr0|refine Vt ?_|refine XF ?_|refine XG ?_|refine XE ?_|refine XH ?_|refine XI ?_|(refine Yr2 ?_;intro own1 st1 hc)|refine Xf (fun e1=>?_)|exact Yr1|refine ho.go hc h (fun n s1 st1 hr hm hc h=>?_) (fun e s1 st1 hc h=>?_)|refine Xbb.gof Xb0 hc h (fun n s1 st1 hr hm hc h=>?_) (fun e s1 st1 hc h=>?_))
end
section
variable {st:St} {R:Res→St→Prop}
attribute [local irreducible] Go.Aw.appendTo
theorem Xnz {deep:Int} {A:Sta→Rs} (h1:¬deep<1→Reads0 101 (if 100<deep then 100 else deep) A):Calls3 287 deep A:=by
 intro s hm st R h
 refine Xa Xb [] Tryz.func287 rfl (by decide) ?_
 repeat' ((conv=>whnf);first|(with_reducible first|refine Yb0 ?_|(refine Yb1 ?_ ?_<;>intro _))|refine Xh1 (s:=s) (q:=A s) (fun hd=>h1 hd s hm) ?_)
 all_goals exact finw rfl h
theorem fullX_c {deep:Int} {A:Sta→Rs} (h1:¬deep<1→Reads0 50 (if 100<deep then 100 else deep) A):Calls3 14 deep A:=by
 intro s hm st R h
 refine Xa Xb [] Tryz.func14 rfl (by decide) ?_
 repeat' ((conv=>whnf);first|(with_reducible first|refine Yb0 ?_|(refine Yb1 ?_ ?_<;>intro _))|refine Xh1 (s:=s) (q:=A s) (fun hd=>h1 hd s hm) ?_)
 all_goals exact finw rfl h
end
def typesP (Y:Sta→Rs) (n:Nd) (s:Sta):Ls:=match Y s with
 | .inl e=>.inl e
 | .inr q=>typesL Y [n,q.1] q.2
def TellsL (st:St) (b:Nat) (R:Res→St→Prop):Ls→Prop
 | .inr (l,s')=>∀st' own',Upd st st' b s'→own'.good st'→R (.ret (.slice 6 (l.map encN) own')) (own'.st st' (l.length*6))
 | .inl (e,s')=>∀st',Upd st st' b s'→R (.pan (fault e)) st'
theorem Xat {Y:Sta→Rs} {l:List Nd} {s:Sta} {n:Nd} {s':Sta} (h:isF s 15 [44]=true) (hY:Y (nextM s).2.1=.inr (n,s')) (hm:mu s'<mu s):typesL Y l s=typesL Y (l++[leafT (nextM s).1,n]) s':=by
 rw [typesL,if_pos h,hY]
 dsimp only
 rw [if_pos hm]
section
variable {st:St} {R:Res→St→Prop}
attribute [local irreducible] Go.Aw.appendTo
theorem types_c {d:Nat} {Y:Sta→Rs} (hY:Calls3 287 d Y) (h0:d=0→∀s,Y s=.inl (2,s)) (hB:Bads Y) (hF:Falls Y) {n1:Nd} {s:Sta} {b:Nat} {x:Int} (hx:x=(d:Int)) (hm:mu s≤100000000) (hs:Has st b s) (h:TellsL st b R (typesP Y n1 s)):
 PC 286 [.ptr b 0,.slice 6 [encN n1] .full,.int .i64 x] st R:=by
 refine Xa Xb [] Tryz.func286 rfl (by decide) ?_
 unfold typesP at h
 have hn1:[n1].length+1≤1000000000:=by show 1+1≤1000000000;decide
 repeat' ((conv=>whnf);first|(with_reducible first|refine Yb0 ?_|(refine Yb1 ?_ ?_<;>intro _)|refine Wx (fun _=>?_) ?_|refine Wy (fun _=>?_) ?_)|refine Xd7 hx hY h0 hB hm hs (QK (fun n2 s2 hq2 st2 h2=>?_) (fun e2 s2 hq2 st2 h2=>?_))|refine Xax (l:=[n1]) (x:=n2) (own:=.full) trivial hn1 (fun own1 ho1=>?_))
 ·rw [hq2] at h
  have hd2:=hF _ _ _ hq2
  dsimp only at h
  refine UZ (α:=List Nd×Sta×St×Own) (fun x=>[(1,.slice 6 (x.1.map encN) x.2.2.2)]) [0,2,6] (fun x=>[]) [] (fun x=>x.2.2.2.st x.2.2.1 (x.1.length*6))
   (fun x=>x.2.2.2.good x.2.2.1∧Upd st x.2.2.1 b x.2.1∧x.1.length+2*mu x.2.1≤400000000∧mu x.2.1≤mu s∧typesL Y x.1 x.2.1=typesL Y [n1,n2] s2) (fun x=>mu x.2.1) ([n1]++[n2],s2,st2,own1)
   ⟨ho1,h2,by show 2+2*mu s2≤_;omega,by show mu s2≤_;omega,rfl⟩ Yl (St.le_refl _) ?_
  rintro ⟨l,s3,st3,own⟩ ⟨j1,j2,j5,j6,j7⟩
  dsimp only at j1 j2 j5 j6 j7
  have hm3:mu s3≤100000000:=by omega
  have hb3:=Zw hm3
  have hl3:Has (st3.setBox b (lookC s3)) b s3:=.inl (St.Xd ..)
  have g3:own.good (st3.setBox b (lookC s3)):=JZ j1 j2.1
  have hn:l.length+2≤1000000000:=by omega
  have hm4:isF s3 15 [44]=true→mu (nextM s3).2.1≤100000000:=fun e=>by have:=Qq e (by decide) (by decide);omega
  repeat' ((conv=>whnf);first|(with_reducible first|refine Yb0 ?_|(refine Yb1 ?_ ?_<;>intro _)|refine Wx (fun _=>?_) ?_|refine Wy (fun _=>?_) ?_)|refine is_o j2.1 hb3 ?_|refine ZL (hl3.hw own _) hb3 (XcG g3 hl3 (Jh (by assumption) (by decide)) (fun st4 h4 g4=>?_))|refine Xd7 hx hY h0 hB (hm4 (by assumption)) (h4.1.hw own _) (ZE g4 h4.1 (ZR (fun n5 s5 hq5 st5 h5 g5=>?_) (fun e5 s5 hq5 st5 h5 g5=>?_)))|refine XkY (l:=l) (x:=leafT (nextM s3).1) (y:=n5) g5 hn (fun own' ho'=>?_))
  all_goals conv=>whnf
  ·have hp:isF s3 15 [44]=true:=by assumption
   have hd:=hF _ _ _ hq5
   have hd3:=Qq hp (by decide) (by decide)
   have hd4:mu s5<mu s3:=by omega
   have hu:=(Xx (st:=st3) (b:=b) (s:=s3)).trans (h4.trans h5)
   refine ⟨(l++[leafT (nextM s3).1,n5],s5,st5,own'),⟨ho',j2.trans hu,?_,by show mu s5≤_;omega,?_⟩,hd4,Yl,St.le_refl _⟩
   ·show (l++[leafT (nextM s3).1,n5]).length+2*mu s5≤_
    rw [List.length_append]
    show l.length+2+2*mu s5≤_
    omega
   ·show typesL Y (l++[leafT (nextM s3).1,n5]) s5=_
    rw [←j7,Xat (l:=l) hp hq5 hd4]
  ·have hp:isF s3 15 [44]=true:=by assumption
   have hu:=(Xx (st:=st3) (b:=b) (s:=s3)).trans (h4.trans h5)
   have hr:typesL Y l s3=.inl (e5,s5):=by rw [typesL,if_pos hp,hq5]
   rw [←j7,hr] at h
   exact finl (Own.XR g5) rfl (h st5 (j2.trans hu))
  ·have hr:typesL Y l s3=.inr (l,s3):=by rw [typesL,if_neg (Bool.eq_false_iff.1 (by assumption))]
   rw [←j7,hr] at h
   exact fin (h _ own (j2.trans Xx) g3) rfl
 ·rw [hq2] at h
  exact fin (h st2 h2) rfl
end
section
variable {st:St} {R:Res→St→Prop}
attribute [local irreducible] Go.Aw.appendTo
theorem is_t {b:Nat} {s:Sta} {k:Int} {x:List UInt8} (e:isF s k x=true) (hs:Has st b s) (hb:s.opn.length≤500000000) (h:R (.ret (.bool true)) (st.setBox b (lookC s))):PC 98 [.ptr b 0,.int .i64 k,.str x] st R:=is_c hs hb (by rw [e];exact h)
theorem is_n {b:Nat} {s:Sta} {k:Int} {x:List UInt8} (e:isF s k x=false) (hs:Has st b s) (hb:s.opn.length≤500000000) (h:R (.ret (.bool false)) (st.setBox b (lookC s))):PC 98 [.ptr b 0,.int .i64 k,.str x] st R:=is_c hs hb (by rw [e];exact h)
theorem Zm {st:St} {b:Nat} {s:Sta}:Has (st.setBox b (lookC s)) b s:=.inl (St.Xd ..)
theorem Xjl {l:List Nd} {s:Sta} (h:isF s 15 [44]=true):commaL l s=commaL (l++[leafT (nextM s).1]) (nextM s).2.1:=by
 rw [commaL,if_pos h,if_pos (Qq h (by decide) (by decide))]
theorem XgO {l:List Nd} {s:Sta} (h:isF s 15 [44]=false):commaL l s=(l,s):=by
 rw [commaL,if_neg (by rw [h];decide)]
theorem XhM {Y:Sta→Rs} (l:List Nd) (s:Sta):∀q s',typesL Y l s=.inr (q,s')→q.length+2*mu s'≤l.length+2*mu s:=by
 fun_induction typesL Y l s with
 |case1 l s h1 e1 h2=>intro e s' h;cases h
 |case2 l s h1 p h2 h3 ih=>
  intro e s' h
  have:=ih e s' h
  rw [List.length_append] at this
  have e2:[leafT (nextM s).1,p.1].length=2:=rfl
  omega
 |case3 l s h1 p h2 h3=>intro e s' h;cases h
 |case4 l s h1=>intro e s' h;cases h;exact Nat.le_refl _
theorem XkJ {Y:Sta→Rs} (hF:Falls Y) {n:Nd} {s:Sta} {l:List Nd} {s':Sta} (h:typesP Y n s=.inr (l,s')):mu s'≤mu s∧l.length≤2+2*mu s:=by
 unfold typesP at h
 split at h
 ·cases h
 ·rename_i h1
  have h2:=hF _ _ _ h1
  have h3:=Ui _ _ _ _ h
  have h4:=XhM _ _ _ _ h
  have e2:∀a b:Nd,[a,b].length=2:=fun _ _=>rfl
  rw [e2] at h4
  omega
theorem XkA {st:St} {b:Nat} {K:Res→St→Prop} {q:Ls} (h:∀l s',q=.inr (l,s')→∀st' own',Upd st st' b s'→own'.good st'→K (.ret (.slice 6 (l.map encN) own')) (own'.st st' (l.length*6)))
 (k:∀e s',q=.inl (e,s')→∀st',Upd st st' b s'→K (.pan (fault e)) st'):TellsL st b K q:=by
 match q with
 | .inr (l,s')=>exact h l s' rfl
 | .inl (e,s')=>exact k e s' rfl
theorem round_c {d:Nat} {x:Int} (hx:x=((d+1:Nat):Int)) (hd:d≤1000000) {Y:Sta→Rs} (hY:Calls3 287 d Y) (h0:d=0→∀s,Y s=.inl (2,s)) (hB:Bads Y) (hF:Falls Y):Reads0 232 x (roundP Y):=by
 intro s hm b st R hs h
 refine Xa Xb [] Tryz.func232 rfl (by decide) ?_
 have hb:=Zw hm
 unfold roundP at h
 cases hq1:takeP s with
 |inl q=>
  rw [hq1] at h
  obtain ⟨e,s'⟩:=q
  repeat' ((conv=>whnf);first|(with_reducible first|refine Yb0 ?_|(refine Yb1 ?_ ?_<;>intro _)|refine Wl (fun _=>?_)|refine Wq (by omega) (by omega) ?_|refine Wz (fun _=>?_)|refine WA (fun _=>?_))|refine ZL hs hb (XeK hq1 (fun st1 h1=>?_)))
  all_goals exact fin (h st1 h1) rfl
 |inr q=>
  obtain ⟨n1,s1⟩:=q
  rw [hq1] at h
  have hm1:mu s1≤100000000:=by have:=(Xbk hq1).1;omega
  have hb1:=Zw hm1
  have hn1:[n1].length+1≤1000000000:=by show 1+1≤1000000000;decide
  dsimp only at h
  cases hA:isF s1 10 [45,62] with
  |true=>
   rw [if_pos hA] at h
   have hb2:(nextM s1).2.1.opn.length≤500000000:=Zw (by have:=Qq hA (by decide) (by decide);omega)
   have hn2:∀n2:Nd,([n1]++[n2]).length+1≤1000000000:=fun _=>by show 2+1≤1000000000;decide
   repeat' ((conv=>whnf);first|(with_reducible first|refine Yb0 ?_|(refine Yb1 ?_ ?_<;>intro _)|refine Wl (fun _=>?_)|refine Wq (by omega) (by omega) ?_|refine Wz (fun _=>?_)|refine WA (fun _=>?_))|refine ZL hs hb (Ji hq1 (fun st1 h1=>?_))|refine is_t hA h1.1 hb1 ?_|refine ZL Zm hb1 (Ji (Jh hA (by decide)) (fun st2 h2=>?_))|refine Xax (l:=[n1]) (x:=leafT (nextM s1).1) (own:=.full) trivial hn1 (fun own1 ho1=>?_)|refine XcM (h2.1.hw own1 _) hb2 (ZE ho1 h2.1 (ZR (fun n3 s3 hq3 st3 h3 hg3=>?_) (fun e3 s3 hq3 st3 h3 hg3=>?_)))|refine Xax (l:=[n1]++[leafT (nextM s1).1]) (x:=n3) hg3 (hn2 _) (fun own2 ho2=>?_))
   all_goals unfold finP at h
   all_goals rw [hq3] at h
   ·exact finl (Own.XR ho2) Qp (h st3 ((h1.trans Xx).trans (h2.trans h3)))
   ·exact finl (Own.XR hg3) rfl (h st3 ((h1.trans Xx).trans (h2.trans h3)))
  |false=>
  rw [if_neg (by rw [hA];decide)] at h
  cases hC:isF s1 15 [41] with
  |true=>
   rw [if_pos hC] at h
   repeat' ((conv=>whnf);first|(with_reducible first|refine Yb0 ?_|(refine Yb1 ?_ ?_<;>intro _)|refine Wl (fun _=>?_)|refine Wq (by omega) (by omega) ?_|refine Wz (fun _=>?_)|refine WA (fun _=>?_))|refine ZL hs hb (Ji hq1 (fun st1 h1=>?_))|refine is_n hA h1.1 hb1 ?_|refine is_t hC Zm hb1 ?_|refine XcM Zm hb1 (QK (fun n3 s3 hq3 st3 h3=>?_) (fun e3 s3 hq3 st3 h3=>?_))|refine Xax (l:=[n1]) (x:=n3) (own:=.full) trivial hn1 (fun own2 ho2=>?_))
   all_goals unfold finP at h
   all_goals rw [hq3] at h
   ·exact finl (Own.XR ho2) Qp (h st3 (((h1.trans Xx).trans Xx).trans h3))
   ·exact fin (h st3 (((h1.trans Xx).trans Xx).trans h3)) rfl
  |false=>
  rw [if_neg (by rw [hC];decide)] at h
  cases hE:isF s1 15 [44] with
  |true=>
   rw [if_pos hE] at h
   repeat' ((conv=>whnf);first|(with_reducible first|refine Yb0 ?_|(refine Yb1 ?_ ?_<;>intro _)|refine Wl (fun _=>?_)|refine Wq (by omega) (by omega) ?_|refine Wz (fun _=>?_)|refine WA (fun _=>?_))|refine ZL hs hb (Ji hq1 (fun st1 h1=>?_))|refine is_n hA h1.1 hb1 ?_|refine is_n hC Zm hb1 ?_|refine is_t hE Zm hb1 ?_)
   refine UZ (α:=List Nd×Sta×St×Own) (fun x=>[(5,.slice 6 (x.1.map encN) x.2.2.2)]) [0,1,4,6] (fun x=>[]) [0] (fun x=>x.2.2.2.st x.2.2.1 (x.1.length*6))
    (fun x=>x.2.2.2.good x.2.2.1∧Upd st x.2.2.1 b x.2.1∧x.1.length+mu x.2.1≤200000000∧mu x.2.1≤mu s1∧commaL x.1 x.2.1=commaL [n1] s1) (fun x=>mu x.2.1) ([n1],s1,_,.full)
    ⟨trivial,((h1.trans Xx).trans Xx).trans Xx,by show 1+mu s1≤_;omega,Nat.le_refl _,rfl⟩ Yl (St.le_refl _) ?_
   rintro ⟨l,s3,st3,own⟩ ⟨j1,j2,j5,j6,j7⟩
   dsimp only at j1 j2 j5 j6 j7
   have hm3:mu s3≤100000000:=by omega
   have hb3:=Zw hm3
   have hl3:Has (st3.setBox b (lookC s3)) b s3:=.inl (St.Xd ..)
   have g3:own.good (st3.setBox b (lookC s3)):=JZ j1 j2.1
   have hn:l.length+1≤1000000000:=by omega
   repeat' ((conv=>whnf);first|(with_reducible first|refine Yb0 ?_|(refine Yb1 ?_ ?_<;>intro _)|refine Wl (fun _=>?_)|refine Wq (by omega) (by omega) ?_|refine Wz (fun _=>?_)|refine WA (fun _=>?_))|refine is_o j2.1 hb3 ?_|refine ZL (hl3.hw own _) hb3 (XcG g3 hl3 (Jh (by assumption) (by decide)) (fun st4 h4 g4=>?_))|refine Xax (l:=l) (x:=leafT (nextM s3).1) g4 hn (fun own' ho'=>?_)|refine XcM (hl3.hw own _) hb3 (ZE g3 hl3 (ZR (fun n5 s5 hq5 st5 h5 g5=>?_) (fun e5 s5 hq5 st5 h5 g5=>?_)))|refine Xax (l:=l) (x:=n5) g5 hn (fun own' ho'=>?_))
   all_goals conv=>whnf
   ·have hp:isF s3 15 [44]=true:=by assumption
    have hd3:=Qq hp (by decide) (by decide)
    refine ⟨(l++[leafT (nextM s3).1],(nextM s3).2.1,st4,own'),⟨ho',j2.trans (Xx.trans h4),?_,by show mu (nextM s3).2.1≤_;omega,?_⟩,hd3,Yl,St.le_refl _⟩
    ·show (l++[leafT (nextM s3).1]).length+mu (nextM s3).2.1≤_
     rw [List.length_append,List.length_singleton]
     omega
    ·show commaL (l++[leafT (nextM s3).1]) (nextM s3).2.1=_
     rw [←j7,Xjl (l:=l) hp]
   all_goals rw [←j7,XgO (by assumption)] at h
   all_goals unfold finP at h
   all_goals dsimp only at h
   all_goals rw [hq5] at h
   ·exact finl (Own.XR ho') Qp (h st5 (j2.trans (Xx.trans h5)))
   ·exact finl (Own.XR g5) rfl (h st5 (j2.trans (Xx.trans h5)))
  |false=>
   rw [if_neg (by rw [hE];decide)] at h
   replace h:Tells st b R (match typesP Y n1 s1 with
    | .inl e=>(.inl e:Rs)
    | .inr r=>finP (if 2<r.1.length then 5 else 4) r.1 r.2 [41]):=by
    unfold typesP
    cases hy:Y s1 with
    |inl e=>rw [hy] at h;exact h
    |inr q=>rw [hy] at h;exact h
   have hbl:∀{l s2},typesP Y n1 s1=.inr (l,s2)→s2.opn.length≤500000000∧l.length+1≤1000000000:=fun e=>by
    have:=XkJ hF e
    exact ⟨Zw (by omega),by omega⟩
   repeat' ((conv=>whnf);first|(with_reducible first|refine Yb0 ?_|(refine Yb1 ?_ ?_<;>intro _)|refine Wl (fun _=>?_)|refine Wq (by omega) (by omega) ?_|refine Wz (fun _=>?_)|refine WA (fun _=>?_))|refine ZL hs hb (Ji hq1 (fun st1 h1=>?_))|refine is_n hA h1.1 hb1 ?_|refine is_n hC Zm hb1 ?_|refine is_n hE Zm hb1 ?_|refine types_c hY h0 hB hF (n1:=n1) (by omega) hm1 Zm (XkA (fun l s2 hq2 st2 own1 h2 g2=>?_) (fun e2 s2 hq2 st2 h2=>?_))|refine Zl (fun _=>?_)|refine XcM (h2.1.hw own1 _) (hbl hq2).1 (ZE g2 h2.1 (ZR (fun n3 s3 hq3 st3 h3 hg3=>?_) (fun e3 s3 hq3 st3 h3 hg3=>?_)))|refine Xax (l:=l) (x:=n3) hg3 (hbl hq2).2 (fun own2 ho2=>?_))
   all_goals rw [hq2] at h
   all_goals dsimp only at h
   all_goals try unfold finP at h
   all_goals try rw [hq3] at h
   all_goals have hu:=(((h1.trans Xx).trans Xx).trans Xx).trans h2
   ·rw [if_pos (by omega)] at h
    exact finl (Own.XR ho2) Qp (h st3 (hu.trans h3))
   ·exact finl (Own.XR hg3) rfl (h st3 (hu.trans h3))
   ·rw [if_neg (by omega)] at h
    exact finl (Own.XR ho2) Qp (h st3 (hu.trans h3))
   ·exact finl (Own.XR hg3) rfl (h st3 (hu.trans h3))
   ·exact fin (h st2 hu) rfl
end
theorem XdD {d:Nat} (h:d=0) (s:Sta):typeP d s=.inl (2,s):=by subst h;rfl
theorem Xk1 {d:Nat} (hd:d+1≤1000000) (h:Calls3 287 (d:Int) (typeP d)):Reads0 158 ((d+1:Nat):Int) (atomP (typeP d)):=
 atom_c (round_c rfl (by omega) h (fun e s=>XdD e s) (JO d) (Qk d)) (Xnn (by omega) h (fun e s=>XdD e s) (JO d) (Qk d))
theorem Xbe {d:Nat} (hd:d+1≤1000000) (h:Calls3 287 (d:Int) (typeP d)):Reads0 97 ((d+1:Nat):Int) (rowP (atomP (typeP d))):=
 row_cT (Xk1 hd h) (QE (Qk d))
theorem XdF {d:Nat} (hd:d+1≤1000000) (h:Calls3 287 (d:Int) (typeP d)):Reads0 101 ((d+1:Nat):Int) (wholeP (atomP (typeP d))):=
 whole_c (Xbe hd h) (XeX (Xbe hd h) (QE (Qk d))) (QE (Qk d))
theorem Xgt:∀d:Nat,d≤100→Calls3 287 (d:Int) (typeP d)
 |0,_=>Xnz fun h=>absurd (by decide) h
 |d+1,hd=>Xnz fun _=>by
  rw [if_neg (by omega)]
  exact XdF (by omega) (Xgt d (by omega))
def depF (deep:Int):Nat:=(if 100<deep then 100 else deep).toNat
theorem dep_le (deep:Int):depF deep≤100:=by unfold depF;split<;>omega
theorem dep_eq {deep:Int} (h:¬deep<1):(if 100<deep then 100 else deep)=((depF deep - 1+1:Nat):Int):=by unfold depF;split<;>omega
section
variable {st:St} {R:Res→St→Prop}
attribute [local irreducible] Go.Aw.appendTo
theorem full_c {d:Int} {A:Sta→Rs} (hr:Reads0 97 d (rowP A)) (ha:ReadsN 99 d (arrowsP A)) (hw:Reads0 101 d (wholeP A)) (hF:Falls A):Reads0 50 d (fullP A):=by
 intro s hm b st R hs h
 refine Xa Xb [] Tryz.func50 rfl (by decide) ?_
 unfold fullP at h
 have hm1:∀{n1 s1},rowP A s=.inr (n1,s1)→mu s1≤100000000:=fun e=>by have:=JW hF _ _ _ e;omega
 have hm2:∀{n1 s1},rowP A s=.inr (n1,s1)→isF s1 10 [61,62]=true→mu (nextM s1).2.1≤100000000:=fun e i=>by have:=hm1 e;have:=Qq i (by decide) (by decide);omega
 repeat' ((conv=>whnf);first|(with_reducible first|exact Wa|exact Wb|exact Wc|refine Wd (by kernel_rfl) ?_|refine We ?_ ?_ ?_|refine W8 (by decide +kernel) ?_ ?_ ?_|refine W0 (by decide +kernel) ?_ ?_ ?_|refine W9 ?_ ?_ ?_|refine Yb0 ?_|(refine Yb1 ?_ ?_<;>intro _)|refine Wq (by omega) (by omega) ?_)|refine hr s hm b _ _ hs (QK (fun n1 s1 hq1 st1 h1=>?_) (fun e1 s1 hq1 st1 h1=>?_))|refine is_c h1.1 (Zw (hm1 hq1)) ?_|refine ha n1 s1 (hm1 hq1) b _ _ Zm (QK (fun n2 s2 hq2 st2 h2=>?_) (fun e2 s2 hq2 st2 h2=>?_))|refine Xk [(0,true),(1,true),(3,true),(4,true),(2,false),(5,false),(6,true),(7,true),(8,false)] [0] (by kernel_rfl) ?_|refine ZL Zm (Zw (hm1 hq1)) (Ji (Jh (by assumption) (by decide)) (fun st2 h2=>?_))|refine hw (nextM s1).2.1 (hm2 hq1 (by assumption)) b _ _ h2.1 (QK (fun n3 s3 hq3 st3 h3=>?_) (fun e3 s3 hq3 st3 h3=>?_))|with_reducible refine WF ?_)
 all_goals rw [hq1] at h
 all_goals dsimp only at h
 ·rw [if_pos (by assumption),hq3] at h
  exact finl (St.le_refl _) (Qp (l:=[n1,leafT (nextM s1).1,n3])) (h st3 ((h1.trans Xx).trans (h2.trans h3)))
 ·rw [if_pos (by assumption),hq3] at h
  intro e'
  exact fin (h st3 ((h1.trans Xx).trans (h2.trans h3))) rfl
 ·rw [if_neg (Bool.eq_false_iff.1 (by assumption)),hq2] at h
  exact finw rfl (h st2 ((h1.trans Xx).trans h2))
 ·rw [if_neg (Bool.eq_false_iff.1 (by assumption)),hq2] at h
  exact fin (h st2 ((h1.trans Xx).trans h2)) rfl
 ·exact fin (h st1 h1) rfl
theorem Xl7 {d:Nat} (hd:d+1≤1000000) (h:Calls3 287 (d:Int) (typeP d)):Reads0 50 ((d+1:Nat):Int) (fullP (atomP (typeP d))):=
 full_c (Xbe hd h) (XeX (Xbe hd h) (QE (Qk d))) (XdF hd h) (QE (Qk d))
theorem fullX {deep:Int}:Calls3 14 deep (fullP (atomP (typeP (depF deep - 1)))):=fullX_c fun h=>by
 rw [dep_eq h]
 have:=dep_le deep
 exact Xl7 (by omega) (Xgt _ (by omega))
end
section
variable {st0 st:St} {b d:Nat} {s:Sta} {rows:List (Own×List Nd)} {K:Res→St→Prop}
attribute [local irreducible] Go.Aw.appendTo
theorem XmQ {opd:Rd Nd} (ho:RdC enc 240 (fun b=>[pv b d]) opd):RdC enc 130 (fun b=>[pv b d]) (opsR opd):=by
 refine ⟨fun {st0 b s st rows K} hc h=>?_⟩
 simp only [opsR,Rd.wp_seq,Rd.wp_ret] at h
 refine Xa Xb [] Tryz.func130 rfl (by decide) ?_
 repeat' ((conv=>whnf);first|(with_reducible first|refine Yd0 ?_|(refine Yd1 ?_ ?_<;>intro e h)|(refine Yd2 ?_ ?_<;>intro _))|exact Yr0|refine XbT ?_|refine Xf (fun e1=>?_)|exact Yr1|refine RdL.go (Xm9 ho) hc h (fun n own1 s1 st1 hr hm hc h=>?_) (fun e s1 st1 hc h=>?_))
theorem Xnr {A:Sta→Rs} {hle:∀s v s',A s=.inr (v,s')→mu s'≤mu s} (hB:Bads A) (hc:Cx st0 b s st rows) (h:Rd.wp (ofRs A hle) s (fun v s'=>∀st',Cx st0 b s' st' rows→K (.ret (enc v)) st') (fun e s'=>∀st',Cy st0 b s' st' rows→K (.pan (fault e.1)) st')):Tells st b K (A s):=by
 cases hq:A s with
 |inl p=>
  obtain ⟨e,s'⟩:=p
  unfold Rd.wp at h
  rw [Ve hB hq] at h
  exact fun st' hu=>h st' (hc.sety hu)
 |inr p=>
  obtain ⟨n,s'⟩:=p
  unfold Rd.wp at h
  rw [Uw hq] at h
  exact fun st' hu=>h st' (hc.upd hu (hle _ _ _ hq))
theorem inner_0 {g:FuncId} {A:Rd Nd} (hd:d≤1000000) (h0:d=0→A=.fail eDeep) (hc:Cx st0 b s st rows)
 (h:Rd.wp A s (fun v s'=>∀st',Cx st0 b s' st' rows→K (.ret (enc v)) st') (fun e s'=>∀st',Cy st0 b s' st' rows→K (.pan (fault e.1)) st'))
 (hg:d≠0→∀K:Res→St→Prop,Rd.wp A s (fun v s'=>∀st',Cx st0 b s' st' rows→K (.ret (enc v)) st') (fun e s'=>∀st',Cy st0 b s' st' rows→K (.pan (fault e.1)) st')→PC g [pv b d] st K):
 PC 120 [pv b (d+1),.func g [] []] st K:=by
 refine Xa Xb [] Tryz.func120 rfl (by decide) ?_
 by_cases hz:d=0
 ·have hlt:((d+1:Nat):Int)<2:=by omega
  rw [h0 hz,Rd.Zf] at h
  repeat' ((conv=>whnf);first|(with_reducible first|refine Yd0 ?_|(refine Yd1 ?_ ?_<;>intro e h)|(refine Yd2 ?_ ?_<;>intro _)|refine Wq (by omega) (by omega) ?_)|refine Zv ?_|exact Qx hc.y h)
 ·have hlt:¬((d+1:Nat):Int)<2:=by omega
  repeat' ((conv=>whnf);first|refine Xds hd ?_|(with_reducible first|refine Yd0 ?_|(refine Yd1 ?_ ?_<;>intro e h)|(refine Yd2 ?_ ?_<;>intro _)|refine Wq (by omega) (by omega) ?_)|refine hg hz _ (Rd.wp_mono h (fun v s1 hr h st1 hc=>?_) (fun e s1 hr h st1 hc=>?_))|refine Zv ?_|exact Yr0|refine Xf (fun e1=>?_)|exact Yr1|fail)
theorem Xa7 {g:FuncId} {c:Nat} {A:Rd Nd} (hd:d≤1000000) (h0:d=0→A=.fail eDeep) (hc:Cx st0 b s st rows)
 (h:Rd.wp A s (fun v s'=>∀st',Cx st0 b s' st' rows→K (.ret (enc v)) st') (fun e s'=>∀st',Cy st0 b s' st' rows→K (.pan (fault e.1)) st'))
 (hg:d≠0→∀K:Res→St→Prop,Rd.wp A s (fun v s'=>∀st',Cx st0 b s' st' rows→K (.ret (enc v)) st') (fun e s'=>∀st',Cy st0 b s' st' rows→K (.pan (fault e.1)) st')→PC g [pv b d,.ptr c 0] st K):
 PC 120 [pv b (d+1),.func g [] [.ptr c 0]] st K:=by
 refine Xa Xb [] Tryz.func120 rfl (by decide) ?_
 by_cases hz:d=0
 ·have hlt:((d+1:Nat):Int)<2:=by omega
  rw [h0 hz,Rd.Zf] at h
  repeat' ((conv=>whnf);first|(with_reducible first|refine Yd0 ?_|(refine Yd1 ?_ ?_<;>intro e h)|(refine Yd2 ?_ ?_<;>intro _)|refine Wq (by omega) (by omega) ?_)|refine Zv ?_|exact Qx hc.y h)
 ·have hlt:¬((d+1:Nat):Int)<2:=by omega
  repeat' ((conv=>whnf);first|refine Xds hd ?_|(with_reducible first|refine Yd0 ?_|(refine Yd1 ?_ ?_<;>intro e h)|(refine Yd2 ?_ ?_<;>intro _)|refine Wq (by omega) (by omega) ?_)|refine hg hz _ (Rd.wp_mono h (fun v s1 hr h st1 hc=>?_) (fun e s1 hr h st1 hc=>?_))|refine Zv ?_|exact Yr0|refine Xf (fun e1=>?_)|exact Yr1|fail)
theorem QJ {g:FuncId} {A:Rd Nd} (hd:d≤1000000) (h0:d=0→A=.fail eDeep) (hg:d≠0→RdC enc g (fun b=>[pv b d]) A):RdC enc 120 (fun b=>[pv b (d+1),.func g [] []]) A:=by
 refine ⟨fun {st0 b s st rows K} hc h=>?_⟩
 exact inner_0 hd h0 hc h fun hz K h=>(hg hz).ap hc h
end
section
variable {st0 st:St} {b d:Nat} {s:Sta} {rows:List (Own×List Nd)} {K:Res→St→Prop}
attribute [local irreducible] Go.Aw.appendTo
theorem Xg6 (hd:d+1≤100):Calls3 14 ((d+1:Nat):Int) (fullP (atomP (typeP (d+1 - 1)))):=by
 have:=fullX (deep:=((d+1:Nat):Int))
 have e:depF ((d+1:Nat):Int) - 1=d+1 - 1:=by unfold depF;split<;>omega
 rw [e] at this;exact this
theorem Xir (hd:d+1≤100):RdC enc 203 (fun b=>[pv b (d+1)]) (fullL (d+1)):=by
 refine ⟨fun {st0 b s st rows K} hc h=>?_⟩
 have hB:Bads (fullP (atomP (typeP (d+1 - 1)))):=Xc5 (Hr (JO _))
 have hi:∀{K:Res→St→Prop},Rd.wp (fullL (d+1)) s (fun v s'=>∀st',Cx st0 b s' st' rows→K (.ret (enc v)) st') (fun e s'=>∀st',Cy st0 b s' st' rows→K (.pan (fault e.1)) st')→
  PC 254 [.ptr b 0,.func 14 [] [],.int .i64 ((d+1:Nat):Int)] st K:=fun h=>
  Xd7 (d:=d+1) rfl (Xg6 hd) (fun e=>by omega) hB hc.mu hc.has (Xnr hB hc h)
 refine Xa Xb [] Tryz.func203 rfl (by decide) ?_
 repeat' ((conv=>whnf);first|(with_reducible first|refine Yd0 ?_|(refine Yd1 ?_ ?_<;>intro e h)|(refine Yd2 ?_ ?_<;>intro _))|refine hi (Rd.wp_mono h (fun v s1 hr h st1 hc=>?_) (fun e s1 hr h st1 hc=>?_))|exact Yr0|refine Xf (fun e1=>?_)|exact Yr1|fail)
theorem Xgu {full:Rd Nd} {n:Nd} (hf:RdC enc 203 (fun b=>[pv b d]) full):RdC enc 147 (fun b=>[pv b d,enc n]) (typedR full n):=by
 refine ⟨fun {st0 b s st rows K} hc h=>?_⟩
 simp only [typedR,Rd.Xi,Rd.Xy,Rd.wp_seq,Rd.wp_ret] at h
 refine Xa Xb [] Tryz.func147 rfl (by decide) ?_
 repeat' ((conv=>whnf);first|(with_reducible first|exact Wa|exact Wb|exact Wc|refine Wd (by kernel_rfl) ?_|refine We ?_ ?_ ?_|refine W8 (by decide +kernel) ?_ ?_ ?_|refine W0 (by decide +kernel) ?_ ?_ ?_|refine W9 ?_ ?_ ?_|refine Yd0 ?_|(refine Yd1 ?_ ?_<;>intro e h)|(refine Yd2 ?_ ?_<;>intro _)|refine Wq (by omega) (by omega) ?_)|refine Qz hc (by assumption) (fun st1 hc=>?_)|refine Zz hc (by assumption) (fun st1 hc=>?_)|refine ZH hc h (fun st1 hc e h=>?_) (fun st1 hc e h=>?_)|refine take_at hc h (by assumption) (by decide) (fun s1 st1 hz hm hc h=>?_)|refine XD hc h (by first|exact Xw (by assumption)|exact XJ (by assumption)|omega) (fun s1 st1 hz hm hc h=>?_)|refine XC.go hc h (fun n s1 st1 hr hm hc h=>?_) (fun e s1 st1 hc h=>?_)|exact Yr0|refine XF ?_|refine XG ?_|refine XE ?_|refine XH ?_|refine XI ?_|refine Xf (fun e1=>?_)|exact Yr1|refine RdC.go hf hc h (fun n s1 st1 hr hm hc h=>?_) (fun e s1 st1 hc h=>?_)|refine Xk [(0,true),(1,true),(2,true),(4,true),(3,false),(5,false),(6,true),(7,false),(8,false)] [2] (by decide +kernel) ?_|with_reducible refine WF ?_)
theorem exp_rd {opd full:Rd Nd} (ho:RdC enc 240 (fun b=>[pv b d]) opd) (hf:RdC enc 203 (fun b=>[pv b d]) full):RdC enc 80 (fun b=>[pv b d]) (expR opd full):=by
 refine ⟨fun {st0 b s st rows K} hc h=>?_⟩
 simp only [expR,Rd.wp_seq] at h
 refine Xa Xb [] Tryz.func80 rfl (by decide) ?_
 repeat' ((conv=>whnf);first|(with_reducible first|exact Wa|exact Wb|exact Wc|refine Wd (by kernel_rfl) ?_|refine We ?_ ?_ ?_|refine W8 (by decide +kernel) ?_ ?_ ?_|refine W0 (by decide +kernel) ?_ ?_ ?_|refine W9 ?_ ?_ ?_|refine Yd0 ?_|(refine Yd1 ?_ ?_<;>intro e h)|(refine Yd2 ?_ ?_<;>intro _))|exact Yr0|refine Xf (fun e1=>?_)|exact Yr1|refine RdC.go (XmQ ho) hc h (fun n s1 st1 hr hm hc h=>?_) (fun e s1 st1 hc h=>?_)|refine RdC.go (Xgu hf) hc h (fun n s1 st1 hr hm hc h=>?_) (fun e s1 st1 hc h=>?_)|refine Xk [(0,true),(1,true),(2,false),(3,false),(4,false)] [1] (by decide +kernel) ?_|with_reducible refine WF ?_)
theorem XfI {L:Low} {lt bl:Nd} (he:RdC enc 120 (fun b=>[pv b d,.func 80 [] []]) L.exp):RdC enc 122 (fun b=>[pv b d,enc lt,enc bl]) (localR L lt bl):=by
 refine ⟨fun {st0 b s st rows K} hc h=>?_⟩
 simp only [localR,Rd.wp_seq,Rd.wp_ret] at h
 refine Xa Xb [] Tryz.func122 rfl (by decide) ?_
 repeat' ((conv=>whnf);first|(with_reducible first|exact Wa|exact Wb|exact Wc|refine Wd (by kernel_rfl) ?_|refine We ?_ ?_ ?_|refine W8 (by decide +kernel) ?_ ?_ ?_|refine W0 (by decide +kernel) ?_ ?_ ?_|refine W9 ?_ ?_ ?_|refine Yd0 ?_|(refine Yd1 ?_ ?_<;>intro e h)|(refine Yd2 ?_ ?_<;>intro _))|refine XM.go hc h (fun n s1 st1 hr hm hc h=>?_) (fun e s1 st1 hc h=>?_)|exact Yr0|refine XF ?_|refine XG ?_|refine XE ?_|refine XH ?_|refine XI ?_|refine Xf (fun e1=>?_)|exact Yr1|refine RdC.go he hc h (fun n s1 st1 hr hm hc h=>?_) (fun e s1 st1 hc h=>?_)|refine Xk [(0,true),(1,true),(2,true),(3,true),(4,false),(5,true),(6,false),(7,false)] [3] (by decide +kernel) ?_|with_reducible refine WF ?_)
theorem XiH {L:Low} {w:List UInt8} (he:RdC enc 120 (fun b=>[pv b d,.func 80 [] []]) L.exp):RdP 335 (fun b v=>[pv b d,v,.str w]) (fun l=>partR L l w):=by
 refine ⟨fun {st0 b s st rows K own l} hl hc h=>?_⟩
 simp only [partR,semiR,Rd.Xi,Rd.Xy,Rd.wp_seq,Rd.wp_ret] at h
 refine Xa Xb [] Tryz.func335 rfl (by decide) ?_
 have hmu:=hc.mu
 rcases hc.has with hs|⟨t,u,o1,o2,e0,hs⟩
 ·skip
  repeat' ((conv=>whnf);first|(with_reducible first|refine Yd0 ?_|(refine Yd1 ?_ ?_<;>intro e h)|(refine Yd2 ?_ ?_<;>intro _)|refine Wq (by omega) (by omega) ?_|refine Wx (fun _=>?_) ?_|refine Wy (fun _=>?_) ?_)|refine Xm hs ?_|refine Qz hc (by assumption) (fun st1 hc=>?_)|refine Zz hc (by assumption) (fun st1 hc=>?_)|refine ZH hc h (fun st1 hc e h=>?_) (fun st1 hc e h=>?_)|refine Qf hc (fun st1 hc=>?_)|refine XM.go hc h (fun n s1 st1 hr hm hc h=>?_) (fun e s1 st1 hc h=>?_)|exact Yr0|(refine Yr2 ?_;intro own1 st1 hc)|refine Xf (fun e1=>?_)|exact Yr1|refine XeB ?_|refine XiV hc h (Xbg (by assumption)) (fun s1 st1 hm hc h=>?_)|refine go_back hc hmu (fun st1 hc=>?_)|refine RdC.go he hc h (fun n s1 st1 hr hm hc h=>?_) (fun e s1 st1 hc h=>?_))
 ·skip
  repeat' ((conv=>whnf);first|(with_reducible first|refine Yd0 ?_|(refine Yd1 ?_ ?_<;>intro e h)|(refine Yd2 ?_ ?_<;>intro _)|refine Wq (by omega) (by omega) ?_|refine Wx (fun _=>?_) ?_|refine Wy (fun _=>?_) ?_)|refine Xm hs ?_|refine Qz hc (by assumption) (fun st1 hc=>?_)|refine Zz hc (by assumption) (fun st1 hc=>?_)|refine ZH hc h (fun st1 hc e h=>?_) (fun st1 hc e h=>?_)|refine Qf hc (fun st1 hc=>?_)|refine XM.go hc h (fun n s1 st1 hr hm hc h=>?_) (fun e s1 st1 hc h=>?_)|exact Yr0|(refine Yr2 ?_;intro own1 st1 hc)|refine Xf (fun e1=>?_)|exact Yr1|refine XeB ?_|refine XiV hc h (Xbg (by assumption)) (fun s1 st1 hm hc h=>?_)|refine go_back hc hmu (fun st1 hc=>?_)|refine RdC.go he hc h (fun n s1 st1 hr hm hc h=>?_) (fun e s1 st1 hc h=>?_))
theorem Vs {g p:FuncId} {A:Rd Nd} {may:Nd→Bool} (hg:RdC enc g (fun b=>[pv b d]) A) (hp:∀{s s' n} {st:St} {K:Res→St→Prop},A.run s=.inr (n,s')→mu s≤100000000→K (.ret (.bool (may n))) st→PC p [enc n] st K):
 RdC enc 196 (fun b=>[pv b d,.func g [] [],.func p [] []]) (formedR A may):=by
 refine ⟨fun {st0 b s st rows K} hc h=>?_⟩
 simp only [formedR,Rd.Xi,Rd.Xy,Rd.wp_seq,Rd.wp_ret,Rd.Xaw] at h
 refine Xa Xb [] Tryz.func196 rfl (by decide) ?_
 have hmu:=hc.mu
 rcases hc.has with hs|⟨t,u,o1,o2,e0,hs⟩
 ·skip
  repeat' ((conv=>whnf);first|(with_reducible first|refine Yd0 ?_|(refine Yd1 ?_ ?_<;>intro e h)|(refine Yd2 ?_ ?_<;>intro _)|refine Wq (by omega) (by omega) ?_)|refine Xm hs ?_|refine Zv ?_|exact Yr0|refine Xf (fun e1=>?_)|exact Yr1|refine go_back hc hmu (fun st1 hc=>?_)|refine RdC.go hg hc h (fun n s1 st1 hr hm hc h=>?_) (fun e s1 st1 hc h=>?_)|refine hp hr hmu ?_)
 ·skip
  repeat' ((conv=>whnf);first|(with_reducible first|refine Yd0 ?_|(refine Yd1 ?_ ?_<;>intro e h)|(refine Yd2 ?_ ?_<;>intro _)|refine Wq (by omega) (by omega) ?_)|refine Xm hs ?_|refine Zv ?_|exact Yr0|refine Xf (fun e1=>?_)|exact Yr1|refine go_back hc hmu (fun st1 hc=>?_)|refine RdC.go hg hc h (fun n s1 st1 hr hm hc h=>?_) (fun e s1 st1 hc h=>?_)|refine hp hr hmu ?_)
end
structure LowC (D:Nat) (L:Low):Prop where
 atom:RdC enc 120 (fun b=>[pv b D,.func 202 [] []]) L.atom
 exp:RdC enc 120 (fun b=>[pv b D,.func 80 [] []]) L.exp
 ops:RdC enc 120 (fun b=>[pv b D,.func 130 [] []]) L.ops
 decls:RdC enc 120 (fun b=>[pv b D,.func 56 [] []]) L.decls
 stmts:RdC enc 120 (fun b=>[pv b D,.func 78 [] []]) L.stmts
 alts:RdC enc 120 (fun b=>[pv b D,.func 79 [] []]) L.alts
 brack:∀{o:Nd} {c:Nat} {st0:St} {b:Nat} {s:Sta} {st:St} {rows:List (Own×List Nd)} {K:Res→St→Prop},st.box c=some (encN o)→Cx st0 b s st rows→
  Rd.wp (L.brack o) s (fun v s'=>∀st',Cx st0 b s' st' rows→K (.ret (enc v)) st') (fun e s'=>∀st',Cy st0 b s' st' rows→K (.pan (fault e.1)) st')→PC 120 [pv b D,.func 339 [] [.ptr c 0]] st K
 list:∀{o:Nd} {c:Nat} {st0:St} {b:Nat} {s:Sta} {st:St} {rows:List (Own×List Nd)} {K:Res→St→Prop},st.box c=some (encN o)→Cx st0 b s st rows→
  Rd.wp (L.list o) s (fun v s'=>∀st',Cx st0 b s' st' rows→K (.ret (enc v)) st') (fun e s'=>∀st',Cy st0 b s' st' rows→K (.pan (fault e.1)) st')→PC 120 [pv b D,.func 341 [] [.ptr c 0]] st K
theorem last0 {n:Nd} (h:n.kids.length=0):lastBad n=true:=by
 unfold lastBad;rw [List.length_eq_zero_iff.1 h];rfl
theorem last_at {n x:Nd} (h:n.kids[((n.kids.length:Nat) - 1:Int).toNat]? =some x):n.kids.getLast? =some x:=by
 rw [List.getLast?_eq_getElem?,←h];congr 1;omega
theorem last1 {n x:Nd} (h:n.kids[((n.kids.length:Nat) - 1:Int).toNat]? =some x) (k:x.kind=32∨x.kind=33):lastBad n=true:=by
 unfold lastBad;rw [last_at h];simpa using k
theorem last2 {n x:Nd} (h:n.kids[((n.kids.length:Nat) - 1:Int).toNat]? =some x) (k:¬x.kind=32) (k2:¬x.kind=33):¬lastBad n=true:=by
 unfold lastBad;rw [last_at h];simp [k,k2]
theorem XW {α β:Type} {m:Rd α} {k:α→Rd β} {s s':Sta} {v:β} (h:(Rd.seq m k).run s=.inr (v,s')):∃a s1,m.run s=.inr (a,s1)∧(k a).run s1=.inr (v,s'):=by
 unfold Rd.seq at h
 dsimp only at h
 split at h
 ·cases h
 ·exact ⟨_,_,‹_›,h⟩
theorem XmR {L:Low} {a b:Nd} {l:List Nd} {w:List UInt8} {s s':Sta} {n:Nat} (h:(partR L [a,b] w).run s=.inr (l,s')) (hm:n≤100000000):l.length≤90000000:=by
 unfold partR at h
 obtain ⟨_,_,_,h⟩:=XW h
 obtain ⟨_,_,_,h⟩:=XW h
 obtain ⟨_,_,_,h⟩:=XW h
 cases h
 exact Nat.le_of_ble_eq_true rfl
section
variable {st0 st:St} {b d:Nat} {s:Sta} {rows:List (Own×List Nd)} {K:Res→St→Prop} {L:Low} {atom:Rd Nd}
attribute [local irreducible] Go.Aw.appendTo
theorem Xjj (hL:LowC d L):RdC enc 292 (fun b=>[pv b d]) (branchR L):=by
 refine ⟨fun {st0 b s st rows K} hc h=>?_⟩
 simp only [branchR,Rd.wp_seq,Rd.wp_ret] at h
 have hmu:=hc.mu
 refine Xa Xb [] Tryz.func292 rfl (by decide) ?_
 repeat' ((conv=>whnf);first|(with_reducible first|exact Wa|exact Wb|exact Wc|refine Wd (by kernel_rfl) ?_|refine We ?_ ?_ ?_|refine W8 (by decide +kernel) ?_ ?_ ?_|refine W0 (by decide +kernel) ?_ ?_ ?_|refine W9 ?_ ?_ ?_|refine Yd0 ?_|(refine Yd1 ?_ ?_<;>intro e h)|(refine Yd2 ?_ ?_<;>intro _))|refine take_at hc h (by assumption) (by decide) (fun s1 st1 hz hm hc h=>?_)|refine XD hc h (by first|exact Xw (by assumption)|exact XJ (by assumption)|omega) (fun s1 st1 hz hm hc h=>?_)|refine XC.go hc h (fun n s1 st1 hr hm hc h=>?_) (fun e s1 st1 hc h=>?_)|exact Yr0|refine XF ?_|refine XG ?_|refine XE ?_|refine XH ?_|refine XI ?_|refine Xf (fun e1=>?_)|exact Yr1|refine RdC.go hL.exp hc h (fun n s1 st1 hr hm hc h=>?_) (fun e s1 st1 hc h=>?_)|refine RdP.go (l:=[_,_]) (XiH hL.exp) (Nat.le_of_ble_eq_true rfl) (hc.push _) h (fun l own1 s1 st1 hr hm hc h=>?_) (fun e s1 st1 hc h=>?_)|refine RdP.go (XiH hL.exp) (XmR hr hmu) hc h (fun l own1 s1 st1 hr hm hc h=>?_) (fun e s1 st1 hc h=>?_)|refine Xk [(0,true),(1,true),(3,true),(2,false),(4,false),(5,true),(6,true)] [] (by decide +kernel) ?_|refine Xk [(0,true),(1,true),(2,true),(3,false),(4,false),(5,false),(6,false)] [1] (by decide +kernel) ?_|with_reducible refine WF ?_)
theorem Xno (hL:LowC d L):RdC enc 293 (fun b=>[pv b d]) (stepsR L):=by
 refine ⟨fun {st0 b s st rows K} hc h=>?_⟩
 simp only [stepsR,Rd.wp_seq,Rd.wp_ret,Rd.Xy,Rd.Zf] at h
 refine Xa Xb [] Tryz.func293 rfl (by decide) ?_
 repeat' ((conv=>whnf);first|(with_reducible first|refine Yd0 ?_|(refine Yd1 ?_ ?_<;>intro e h)|(refine Yd2 ?_ ?_<;>intro _)|refine Wl (fun _=>?_)|refine Wm (by assumption) (by omega) ?_|refine Wn (by omega) (by omega) (fun _ _ _=>?_)|refine Wq (by omega) (by omega) ?_|refine Wz (fun _=>?_)|refine WA (fun _=>?_)|refine WB (by assumption) (by omega) ?_|refine WC (by omega) (by omega) (fun _ _=>?_)|refine WD (by omega) (by omega) (fun _ _=>?_))|refine take_at hc h (by assumption) (by decide) (fun s1 st1 hz hm hc h=>?_)|refine XD hc h (by first|exact Xw (by assumption)|exact XJ (by assumption)|omega) (fun s1 st1 hz hm hc h=>?_)|refine XC.go hc h (fun n s1 st1 hr hm hc h=>?_) (fun e s1 st1 hc h=>?_)|refine Zv ?_|exact Yr0|refine XF ?_|refine XG ?_|refine XE ?_|refine XH ?_|refine XI ?_|refine Zl (fun _=>?_)|refine Xf (fun e1=>?_)|exact Yr1|refine RdC.go hL.stmts hc h (fun n s1 st1 hr hm hc h=>?_) (fun e s1 st1 hc h=>?_))
 all_goals conv=>whnf
 all_goals first
  |(rw [if_pos (last0 (by omega))] at h;exact Qx hc.y h)
  |(rw [if_pos (last1 (by assumption) (by omega))] at h;exact Qx hc.y h)
  |(rw [if_neg (last2 (by assumption) (by omega) (by omega))] at h;exact Zj hc h rfl)
end
section
variable {st0 st:St} {b d:Nat} {s:Sta} {rows:List (Own×List Nd)} {K:Res→St→Prop} {L:Low} {atom:Rd Nd}
attribute [local irreducible] Go.Aw.appendTo
theorem Xl1 (ha:RdC enc 202 (fun b=>[pv b d]) atom):RdC enc 196 (fun b=>[pv b d,.func 202 [] [],.func 124 [] []]) (formedR atom mayFP):=
 Vs ha fun _ _ k=>Xd8 k
theorem XdZ {A:Rd Nd} {p:Nd→Bool} (h:Rd.Falls A):Rd.Falls (formedR A p):=Rd.Falls.look fun s v s' e=>Rd.Falls.at (h _) e
theorem XjS (hL:LowC d L) (ha:RdC enc 202 (fun b=>[pv b d]) atom) (hF:Rd.Falls atom):RdC enc 291 (fun b=>[pv b d]) (lambdaR L atom):=by
 refine ⟨fun {st0 b s st rows K} hc h=>?_⟩
 simp only [lambdaR,Rd.wp_seq,Rd.wp_ret] at h
 refine Xa Xb [] Tryz.func291 rfl (by decide) ?_
 have hmu:=hc.mu
 repeat' ((conv=>whnf);first|(with_reducible first|refine Yd0 ?_|(refine Yd1 ?_ ?_<;>intro e h)|(refine Yd2 ?_ ?_<;>intro _)|refine Wl (fun _=>?_)|refine Wz (fun _=>?_)|refine WA (fun _=>?_))|refine Qf hc (fun st1 hc=>?_)|refine take_at hc h (by assumption) (by decide) (fun s1 st1 hz hm hc h=>?_)|refine XD hc h (by first|exact Xw (by assumption)|exact XJ (by assumption)|omega) (fun s1 st1 hz hm hc h=>?_)|refine XC.go hc h (fun n s1 st1 hr hm hc h=>?_) (fun e s1 st1 hc h=>?_)|refine XM.go hc h (fun n s1 st1 hr hm hc h=>?_) (fun e s1 st1 hc h=>?_)|exact Yr0|refine JM ?_|refine XF ?_|refine XG ?_|refine XE ?_|refine XH ?_|refine XI ?_|(refine Yr2 ?_;intro own1 st1 hc)|refine Zl (fun _=>?_)|refine Xf (fun e1=>?_)|exact Yr1|fail)
 refine Qs (fun l own=>[(3,.slice 6 (l.map encN) own)]) (fun _ _=>[]) [1,2] [0,1] (fun l own=>(own,l)::rows) (fun l=>l.length) .full (hc.push _) h (by show 1+_≤_;omega) Yl ?_
 intro l s1 st1 own1 hc h hl hm1
 simp only [lambdaB,lambdaS,Rd.Xi,Rd.Xy,Rd.wp_seq,Rd.wp_ret,Rd.XT] at h
 repeat' ((conv=>whnf);first|(with_reducible first|refine Yd0 ?_|(refine Yd1 ?_ ?_<;>intro e h)|(refine Yd2 ?_ ?_<;>intro _)|refine Wl (fun _=>?_)|refine Wz (fun _=>?_)|refine WA (fun _=>?_))|refine Qf hc (fun st1 hc=>?_)|refine take_at hc h (by assumption) (by decide) (fun s1 st1 hz hm hc h=>?_)|refine XD hc h (by first|exact Xw (by assumption)|exact XJ (by assumption)|omega) (fun s1 st1 hz hm hc h=>?_)|refine XC.go hc h (fun n s1 st1 hr hm hc h=>?_) (fun e s1 st1 hc h=>?_)|refine XM.go hc h (fun n s1 st1 hr hm hc h=>?_) (fun e s1 st1 hc h=>?_)|exact Yr0|refine JM ?_|refine XF ?_|refine XG ?_|refine XE ?_|refine XH ?_|refine XI ?_|(refine Yr2 ?_;intro own1 st1 hc)|refine Zl (fun _=>?_)|refine Xf (fun e1=>?_)|exact Yr1|refine RdC.gof (Xl1 ha) (XdZ hF) hc h (fun n s1 st1 hr hm hc h=>?_) (fun e s1 st1 hc h=>?_)|refine RdC.go hL.exp hc h (fun n s1 st1 hr hm hc h=>?_) (fun e s1 st1 hc h=>?_))
set_option maxHeartbeats 4000000 in
theorem Xhp (hL:LowC d L) (ha:RdC enc 202 (fun b=>[pv b d]) atom) (hF:Rd.Falls atom):RdC enc 240 (fun b=>[pv b d]) (operandR L atom):=by
 refine ⟨fun {st0 b s st rows K} hc h=>?_⟩
 simp only [operandR,atomsR,letR,caseR,Rd.Xi,Rd.Xy,Rd.wp_seq,Rd.wp_ret] at h
 refine Xa Xb [] Tryz.func240 rfl (by decide) ?_
 have hmu:=hc.mu
 repeat' ((conv=>whnf);first|(with_reducible first|exact Wa|exact Wb|exact Wc|refine Wd (by kernel_rfl) ?_|refine We ?_ ?_ ?_|refine W8 (by decide +kernel) ?_ ?_ ?_|refine W0 (by decide +kernel) ?_ ?_ ?_|refine W9 ?_ ?_ ?_|refine Yd0 ?_|(refine Yd1 ?_ ?_<;>intro e h)|(refine Yd2 ?_ ?_<;>intro _))|refine Qf hc (fun st1 hc=>?_)|refine take_at hc h (by assumption) (by decide) (fun s1 st1 hz hm hc h=>?_)|refine XD hc h (by first|exact Xw (by assumption)|exact XJ (by assumption)|omega) (fun s1 st1 hz hm hc h=>?_)|refine XC.go hc h (fun n s1 st1 hr hm hc h=>?_) (fun e s1 st1 hc h=>?_)|refine XM.go hc h (fun n s1 st1 hr hm hc h=>?_) (fun e s1 st1 hc h=>?_)|exact Yr0|refine JM ?_|refine XF ?_|refine XG ?_|refine XE ?_|refine XH ?_|refine XI ?_|refine XbT ?_|(refine Yr2 ?_;intro own1 st1 hc)|refine Xf (fun e1=>?_)|exact Yr1|refine RdC.go (XjS hL ha hF) hc h (fun n s1 st1 hr hm hc h=>?_) (fun e s1 st1 hc h=>?_)|refine RdC.go (Xjj hL) hc h (fun n s1 st1 hr hm hc h=>?_) (fun e s1 st1 hc h=>?_)|refine RdC.go (Xno hL) hc h (fun n s1 st1 hr hm hc h=>?_) (fun e s1 st1 hc h=>?_)|refine RdC.go hL.decls hc h (fun n s1 st1 hr hm hc h=>?_) (fun e s1 st1 hc h=>?_)|refine RdC.go (XfI hL.exp) hc h (fun n s1 st1 hr hm hc h=>?_) (fun e s1 st1 hc h=>?_)|refine RdC.go hL.exp hc h (fun n s1 st1 hr hm hc h=>?_) (fun e s1 st1 hc h=>?_)|refine RdC.go hL.alts hc h (fun n s1 st1 hr hm hc h=>?_) (fun e s1 st1 hc h=>?_)|refine RdC.go ha hc h (fun n s1 st1 hr hm hc h=>?_) (fun e s1 st1 hc h=>?_)|refine Cx.app1 (l:=[_,_,_]) (hc.push _) (Nat.le_of_ble_eq_true rfl) (fun own1 st1 hc=>?_)|refine Xk [(0,true),(1,true),(2,true),(4,true),(3,false),(5,false),(6,false),(7,false)] [1] (by decide +kernel) ?_|refine Xk [(0,true),(1,true),(3,true),(5,true),(6,true),(2,false),(4,false),(7,false),(8,true),(9,true)] [] (by decide +kernel) ?_|with_reducible refine WF ?_)
 all_goals refine Qs (fun l own=>[(5,.slice 6 (l.map encN) own)]) (fun _ _=>[]) [1,2] [0,1] (fun l own=>(own,l)::rows) (fun l=>l.length) .full (hc.push _) h (by show 1+_≤_;omega) Yl ?_
 all_goals intro l s1 st1 own1 hc h hl hm1
 all_goals simp only [atomsB,Rd.Xi,Rd.Xy,Rd.wp_seq,Rd.wp_ret,Rd.XT] at h
 all_goals (repeat' ((conv=>whnf);first|(with_reducible first|exact Wa|exact Wb|exact Wc|refine Wd (by kernel_rfl) ?_|refine We ?_ ?_ ?_|refine W8 (by decide +kernel) ?_ ?_ ?_|refine W0 (by decide +kernel) ?_ ?_ ?_|refine W9 ?_ ?_ ?_|refine Yd0 ?_|(refine Yd1 ?_ ?_<;>intro e h)|(refine Yd2 ?_ ?_<;>intro _))|refine Qf hc (fun st1 hc=>?_)|refine take_at hc h (by assumption) (by decide) (fun s1 st1 hz hm hc h=>?_)|refine XD hc h (by first|exact Xw (by assumption)|exact XJ (by assumption)|omega) (fun s1 st1 hz hm hc h=>?_)|refine XC.go hc h (fun n s1 st1 hr hm hc h=>?_) (fun e s1 st1 hc h=>?_)|refine XM.go hc h (fun n s1 st1 hr hm hc h=>?_) (fun e s1 st1 hc h=>?_)|exact Yr0|refine JM ?_|refine XF ?_|refine XG ?_|refine XE ?_|refine XH ?_|refine XI ?_|refine XbT ?_|(refine Yr2 ?_;intro own1 st1 hc)|refine Xf (fun e1=>?_)|exact Yr1|refine RdC.gof ha hF hc h (fun n s1 st1 hr hm hc h=>?_) (fun e s1 st1 hc h=>?_)|with_reducible refine WF ?_))
end
end Go.Proofs.YtkidoddkbhchkaaGreatDoor
