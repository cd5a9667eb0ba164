/-
  Parts of a proof: lemmas that the last text uses.
-/
import Derived.Test.YtpaiiicnhgoijaaGreatDoorJ2
set_option linter.unusedVariables false
set_option linter.unusedSimpArgs false
set_option maxHeartbeats 16000000
variable {o:List Int} {l t s r x:List UInt8} {Q:Go.Aw.AH->Go.Aw.Env->Go.Aw.St->Prop} {n m p k b pos d n1 n2:Nat} {f:Go.FuncId} {i c v base Dx ln:Int} {j tx:Bool} {cs args:List Go.Aw.V} {J:Go.Aw.Mem} {R:Go.Aw.AA->Go.Aw.St->Prop} {env:Go.Aw.Env} {st' st0:Go.Aw.St} {fn:Go.Func} {K:Go.Aw.V->Go.Aw.St->Prop} {w1 w2:Go.Aw.AJ} {g:List (Nat×Nat)} {X:Type} {Ag notes:List (List Go.Aw.V)}
namespace Go.Proofs.Z
open Go Go.Aw
section
variable {A B C D E:Rd Nd} {s s0 s1 s2 s':Ad} {Q:Nd->Ad->Prop} {L:EX}
theorem et:∀{l:List Nd},2<=l.length->l.take (l.length - 1)++[l.getLastD Hz]=l/\1<=(l.take (l.length - 1)).length:=λ{l} h=>by
 have U:l≠[]:=λe=>by simp_all
 refine ⟨?_,by grind⟩
 have h1:=List.dropLast_concat_getLast U
 grind
theorem Ba.split:∀{l:List Nd} {s s':Ad},Ba l s s'->∀{a b:List Nd},l=a++b->∃s1,Ba a s s1/\Ba b s1 s':=by
 intro l s s' h
 induction h with
 |nil s=>intro a b e;obtain ⟨rfl,rfl⟩:=List.append_eq_nil_iff.1 e.symm;exact ⟨s,.nil s,.nil s⟩
 |app h1 h2 i1 i2=>
  intro a b e
  rcases List.append_eq_append_iff.1 e with ⟨x,U,e2⟩|⟨x,U,e2⟩
  .obtain ⟨s1,k1,k2⟩:=i2 e2
   subst U
   exact ⟨s1,.app h1 k1,k2⟩
  .obtain ⟨s1,k1,k2⟩:=i1 U
   subst e2
   exact ⟨s1,k1,.app k2 h2⟩
 |tok g1 g2 g3=>
  intro a b e
  match a with
  |[]=>rw [List.nil_append] at e;subst e;exact ⟨_,.nil _,.tok g1 g2 g3⟩
  |x::r=>
   rw [List.cons_append] at e
   injection e with U e2
   obtain ⟨rfl,rfl⟩:=List.append_eq_nil_iff.1 e2.symm
   subst U
   exact ⟨_,.tok g1 g2 g3,.nil _⟩
 |skip g1 g2=>intro a b e;obtain ⟨rfl,rfl⟩:=List.append_eq_nil_iff.1 e.symm;exact ⟨_,.nil _,.skip g1 g2⟩
 |close g1=>intro a b e;obtain ⟨rfl,rfl⟩:=List.append_eq_nil_iff.1 e.symm;exact ⟨_,.nil _,.close g1⟩
 |node g1 g2 g3 ih=>
  intro a b e
  match a with
  |[]=>rw [List.nil_append] at e;subst e;exact ⟨_,.nil _,.node g1 g2 g3⟩
  |x::r=>
   rw [List.cons_append] at e
   injection e with U e2
   obtain ⟨rfl,rfl⟩:=List.append_eq_nil_iff.1 e2.symm
   subst U
   exact ⟨_,.node g1 g2 g3,.nil _⟩
 |block g1 g2 g3 ih=>
  intro a b e
  match a with
  |[]=>rw [List.nil_append] at e;subst e;exact ⟨_,.nil _,.block g1 g2 g3⟩
  |x::r=>
   rw [List.cons_append] at e
   injection e with U e2
   obtain ⟨rfl,rfl⟩:=List.append_eq_nil_iff.1 e2.symm
   subst U
   exact ⟨_,.block g1 g2 g3,.nil _⟩
theorem gC {o:Nd} (hA:Dv A) (hB:Dv B) (hC:Dv C):∀s,Rd.wp (D8 A B C o) s (λn s'=>∀s0,Ba [o] s0 s->Ba [n] s0 s') Fg:=λs=>by
 simp only [D8,Rd.AD,Rd.wp_seq,Rd.wp_ret]
 refine gG hA λl b s1 h1 h2 hl=>?_
 dsimp only
 refine BN (λe=>?_) λ_=>?_
 .obtain ⟨h3,h4⟩:=h2 e
  obtain ⟨t1,t2⟩:=et h3
  obtain ⟨s2,k1,k2⟩:=hl.split t1.symm
  exact CH (BA h4 Do Do) λg1 s0 U=>(U.cons ((k1.one Do Do t2).cons (k2.cons g1))).two Do Do (Nat.le_of_ble_eq_true rfl)
 .refine U2 hB (hl.one Do Do h1) λn s1 hn=>?_
  refine E2 (P:=λq s1=>(q.1=4\/q.1=5)/\2<=q.2.length/\∀s0,Ba [o] s0 s->Ba q.2 s0 s1) (λq s1 h0=>?_) ⟨.inl rfl,Nat.le_refl _,λs0 U=>U.cons hn⟩
  obtain ⟨hq,hl,h0⟩:=h0
  simp only [Zw,Rd.Al,Rd.AD,Rd.wp_seq,Rd.wp_ret]
  refine BN (λe=>CH (BA e Do Do) λg1=>HW hC λn s2 g2=>⟨.inr trivial,Ce,λs0 U=>((h0 s0 U).snoc g1).snoc g2⟩) λ_=>Rt Do Do λc s2 hc s0 U=>?_
  exact ((h0 s0 U).snoc hc).two AC AC (by grind)
theorem U1 {l:List Nd} {Q:List Nd->Ad->Prop} (hA:Dv A) (U:Ba l s0 s) (k:∀l' s1,l.length+2<=l'.length->Ba l' s0 s1->Q l' s1):Rd.wp (E4 A l) s Q Fg:=by
 simp only [E4,Rd.wp_seq]
 refine Rt Do Do λb s1 hb=>HW hA λt s2 ht=>?_
 refine E2 (P:=λl' s1=>Ba l' s0 s1/\l.length+2<=l'.length) (λl' s1 U=>?_) ⟨(U.snoc hb).snoc ht,kw⟩
 obtain ⟨U,hl⟩:=U
 simp only [Nu,Rd.Al,Rd.AD,Rd.wp_seq,Rd.wp_ret]
 exact BN (λe=>CH (BA e Do Do) λg1=>HW hA λn s2 g2=>⟨(U.snoc g1).snoc g2,by grind⟩) λ_=>k _ _ hl U
theorem mU {o:Nd} (hA:Dv A) (hB:Dv B):∀s,Rd.wp (N5 A B o) s (λn s'=>∀s0,Ba [o] s0 s->Ba [n] s0 s') Fg:=λs=>by
 simp only [N5,Rd.Al,Rd.AD,Rd.wp_seq,Rd.wp_ret]
 refine HW hA λe s1 he=>BN (λ_=>?_) λ_=>?_
 .have:Rd.wp (E4 B [o,e]) s1 (λl s2=>Rd.wp (Bc 15 [93]) s2 (λc s'=>∀s0,Ba [o] s0 s->Ba [Aq 8 (l++[c])] s0 s') Fg) Fg:=by
   refine Rd.XK (λl s2 hr=>?_) (λ_ _ _=>trivial)
   refine Rt Do Do λc s3 hc s0 ho=>?_
   have h1:Rd.wp (E4 B [o,e]) s1 (λl s2=>Ba l s0 s2/\2<=l.length) Fg:=U1 hB (ho.cons he) λl' s1 hl h=>⟨h,AC⟩
   unfold Rd.wp at h1
   rw [hr] at h1
   exact (h1.1.snoc hc).two Do Do (by grind)
  omega
 .refine E2 (P:=λl s1=>2<=l.length/\∀s0,Ba [o] s0 s->Ba l s0 s1) (λl s1 h0=>?_) ⟨Nat.le_refl _,λs0 ho=>ho.cons he⟩
  obtain ⟨hl,h0⟩:=h0
  have U:∀{k:Int} {l:List Nd} {s1:Ad},k≠1->k≠30->2<=l.length->(∀s0,Ba [o] s0 s->Ba l s0 s1)->Rd.wp (Bc 15 [93]) s1 (λc s'=>∀s0,Ba [o] s0 s->Ba [Aq k (l++[c])] s0 s') Fg:=λhk h30 hl h0=>
   Rt Do Do λc s3 hc s0 ho=>((h0 s0 ho).snoc hc).two hk h30 (by grind)
  simp only [iW,Sc,Rd.Al,Rd.AD,Rd.wp_seq,Rd.wp_ret]
  have hc:if AU s1 15 [44]=true then Rd.wp Ay s1 (λc s'=>Rd.wp A s' (λe s'=>2<=(l++[c]++[e]).length/\∀s0,Ba [o] s0 s->Ba (l++[c]++[e]) s0 s') Fg) Fg
   else Rd.wp (Bc 15 [93]) s1 (λc s'=>∀s0,Ba [o] s0 s->Ba [Aq 6 (l++[c])] s0 s') Fg:=
   BN (λe=>CH (BA e Do Do) λg1=>HW hA λn s2 g2=>⟨Ce,λs0 ho=>((h0 s0 ho).snoc g1).snoc g2⟩) λ_=>U Do Do hl h0
  refine BN (λ_=>BN (λe=>CH (BA e Do Do) λg1=>BN (λ_=>?_) λ_=>HW hA λn s2 g2=>?_) λ_=>hc) λ_=>hc
  .exact U Do Do (by grind) λs0 ho=>(h0 s0 ho).snoc g1
  .exact U Do Do Ce λs0 ho=>((h0 s0 ho).snoc g1).snoc g2
theorem Z4 {n:Nd} (hA:Dv A) (U:Ba [n] s0 s) (k:∀n s1,Ba [n] s0 s1->Q n s1):Rd.wp (Pz A n) s Q Fg:=by
 simp only [Pz,Rd.Al,Rd.AD,Rd.wp_seq,Rd.wp_ret,Rd.D5]
 exact BN (λe=>BN (λ_=>CH (BA e Do Do) λg1=>HW hA λm s2 g2=>k _ _ ((U.cons (g1.cons g2)).two Do Do (Nat.le_of_ble_eq_true rfl))) λ_=>trivial) λ_=>k _ _ U
theorem mW (hL:LR L) (U:Dv A):Dv (SF L A):=λs=>by
 simp only [SF,Rd.Al,Rd.AD,Rd.wp_seq,Rd.wp_ret]
 exact BN (λe=>CH (BA e Do Do) λg1=>HW hL.decls λb s2 g2=>BN (λ_=>U0 hL (g1.cons g2) λn s3 g3=>Z4 U g3 λ_ _ h=>h) λ_=>(g1.cons g2).two Do Do (Nat.le_of_ble_eq_true rfl))
  λ_=>HW U λn s3 g3=>Z4 U g3 λ_ _ h=>h
theorem Z8 {m:List UInt8} {l:List Nd} (hL:LR L) (hA:Dv A) (hB:Dv B) (U:Ba l s0 s) (hl:l=[]\/2<=OA l) (k:∀n s1,Ba [n] s0 s1->Q n s1):Rd.wp (Za L A B m l) s Q Fg:=by
 simp only [Za,Rd.wp_seq,Rd.Al,Rd.AD,Rd.wp_ret]
 refine E2 (P:=λl s1=>Ba l s0 s1/\(l=[]\/2<=OA l)) (λl s1 U=>?_) ⟨U,hl⟩
 obtain ⟨U,hl⟩:=U
 have hs:Rd.wp (E4 B []) s1 (λg s'=>Rd.wp (Bc 10 m) s' (λq s'=>Rd.wp A s' (λe s'=>Ba (l++[Aq 30 (g++[q]++[e])]) s0 s'/\(l++[Aq 30 (g++[q]++[e])]=[]\/2<=OA (l++[Aq 30 (g++[q]++[e])]))) Fg) Fg) Fg:=by
  refine U1 hB (.nil s1) λg s2 hg h=>Rt Do Do λq s3 g1=>HW hA λe s4 g2=>⟨U.snoc (Ba.gd ((h.snoc g1).snoc g2) (by grind)),.inr ?_⟩
  rw [Jq]
  have:OA [Aq 30 (g++[q]++[e])]=2:=rfl
  omega
 have he:∀{l:List Nd} {s1:Ad},Ba l s0 s1->2<=OA l->if AU s1 9 Rj=true then Rd.wp Ay s1 (λw s'=>Rd.wp L.decls s' (λb s'=>Q (Aq 29 (l++[Aq 31 [w,b]])) s') Fg) Fg else Q (Aq 29 l) s1:=λ{l s1} U hl=>
  BN (λe=>CH (BA e Do Do) λg1=>HW hL.decls λb s2 g2=>k _ _ (.node (U.snoc ((g1.cons g2).two Do Do (Nat.le_of_ble_eq_true rfl))) Do (by rw [Jq];have:l7 29=1:=rfl;omega)))
   λ_=>k _ _ (.node U Do (by have:l7 29=1:=rfl;omega))
 simp only [Tz,Lw,Rd.Al,Rd.AD,Rd.wp_seq,Rd.wp_ret]
 grind
theorem gE {m:List UInt8} (hL:LR L) (hA:Dv A) (hB:Dv B):Dv (Zb L A B m):=λs=>by
 simp only [Zb,Rd.Al,Rd.AD,Rd.wp_seq]
 refine BN (λe=>?_) λ_=>BN (λ_=>Z8 hL hA hB (.nil s) (.inl rfl) λ_ _ h=>h) λ_=>trivial
 by_cases U:Real s
 .exact CH U λg1=>HW hA λe s2 g2=>Z8 hL hA hB (g1.cons g2) (.inr (Nat.le_trans (Nat.le_of_ble_eq_true rfl) O8)) λ_ _ h=>h
 .exact absurd (BA e Do Do) U
theorem ri (hL:LR L) (U:Dv A) (hB:Dv B) (hC:Dv C):Dv (ca L A B C):=λs=>by
 simp only [ca,Rd.AD,Rd.wp_seq,Rd.wp_ret,Rd.D5]
 exact HW U λn s1 g1=>BN (λ_=>HW (gE hL hB hC) λr s2 g2=>(g1.cons g2).two Do Do (Nat.le_of_ble_eq_true rfl)) λ_=>trivial
theorem PS {l:List Nd} (U:Ba l s0 s) (hl:1<=l.length) (k:∀n s1,Ba [n] s0 s1->Q n s1):Rd.wp (IQ l) s Q Fg:=by
 have ho:=Nc (p:=HU) Tn
 simp only [IQ,Rd.wp_seq]
 refine HW ho λo s1 g1=>?_
 refine E2 (P:=λl s1=>Ba l s0 s1/\2<=l.length) (λl s1 U=>?_) ⟨U.snoc g1,kw⟩
 obtain ⟨U,hl⟩:=U
 simp only [Tt,Rd.Al,Rd.AD,Rd.wp_seq,Rd.wp_ret]
 exact BN (λe=>CH (BA e Do Do) λg1=>HW ho λo s2 g2=>⟨(U.snoc g1).snoc g2,Ce⟩) λ_=>k _ _ (U.two Do Do hl)
theorem cE (U:Real s) (k:∀n s1,Ba [n] s s1->Q n s1):Rd.wp IU s Q Fg:=by
 simp only [IU,Rd.Al,Rd.AD,Rd.wp_seq]
 refine CH U λg1=>BN (λe=>?_) λ_=>PS g1 (Nat.le_of_ble_eq_true rfl) k
 simp only [CX,Rd.Al,Rd.AD,Rd.wp_seq,Rd.wp_ret,Rd.GX]
 exact CH (DN e Do Do) λg2=>BN (λ_=>PS (g1.cons g2) (Nat.le_of_ble_eq_true rfl) k) λ_=>trivial
theorem gI {n:Nd} (hA:Dv A) (hB:Dv B) (U:Ba [n] s0 s) (k:∀n s1,Ba [n] s0 s1->Q n s1):Rd.wp (WS A B n) s Q Fg:=by
 have ho:=Nc (p:=XE) hA
 simp only [WS,Rd.AD,Rd.wp_seq,Rd.D5]
 refine BN (λ_=>?_) λ_=>trivial
 refine E2 (P:=λl s1=>Ba l s0 s1) (λl s1 U=>?_) U
 simp only [sE,Rd.Al,Rd.AD,Rd.wp_seq,Rd.wp_ret]
 exact BN (λe=>CH (BA e Do Do) λg1=>HW ho λo s2 g2=>(U.snoc g1).snoc g2) λ_=>Rt Do Do λc s2 g1=>HW hB λt s3 g2=>k _ _ (((U.snoc g1).snoc g2).two Do Do Ce)
theorem mT (hL:LR L) (U:Dv A) (hB:Dv B) (hC:Dv C) (hD:Dv D) (hE:Dv E):Dv (RX L A B C D E):=λs=>by
 simp only [RX,Rd.Al,Rd.AD,Rd.wp_seq,Rd.wp_ret,Rd.D5]
 exact BN (λe=>cE (Eu e) λ_ _ h=>h) λ_=>HW hB λn s1 g1=>BN (λ_=>gI U hE g1 λ_ _ h=>h) λ_=>BN (λ_=>gI U hE g1 λ_ _ h=>h) λ_=>
  BN (λ_=>HW (gE hL hC hD) λr s2 g2=>(g1.cons g2).two Do Do (Nat.le_of_ble_eq_true rfl)) λ_=>trivial
theorem gH {Q:Unit->Ad->Prop} (k:∀s1,Ba [] s s1->Q () s1):Rd.wp Ci s Q Fg:=by
 refine E2 (P:=λ_ s1=>Ba [] s s1) (λ_ s1 U=>?_) (.nil s)
 simp only [Fz,Rd.Al,Rd.AD,Rd.wp_seq,Rd.wp_ret]
 exact BN (λe=>uq (R8 e) λh=>U.pass h) λ_=>k _ U
theorem UZ {f m:Bool} {Q:Bool->Ad->Prop} (k:∀b s1,Ba [] s s1->Q b s1):Rd.wp (Dg f m) s Q Fg:=by
 simp only [Dg,Rd.Al,Rd.AD,Rd.wp_seq,Rd.wp_ret]
 have hi:∀{f:Bool},(if f then AU s 15 [125] else (Ab s).1.kind==20)=true->Gr (Ab s).1=true:=λ{f} e=>by
  unfold Gr
  cases f with
  |true=>
   rw [if_pos rfl] at e
   unfold AU at e
   simp_all
  |false=>
   simp_all
 refine BN (λe=>uq (hi e) λh=>k _ _ h) λ_=>BN (λ_=>BN (λ_=>trivial) λ_=>?_) λ_=>k _ _ (.nil s)
 unfold Rd.wp PG
 dsimp only
 by_cases e:(C0 s).2=true
 .rw [if_pos e];exact k _ _ (.close e)
 .rw [if_neg e];trivial
theorem PQ {p:Tk->Bool} (hA:Dv A):Dv (Ds p A):=λs=>by
 simp only [Ds,Rd.Al,Rd.AD,Rd.wp_seq,Rd.wp_ret]
 have hb:∀{f:Bool} {s1:Ad},(Ab s).2.2=0->Gr (Ab s).1=true->(Ab s).2.1=s1->Rd.wp (Rd.loop (S3 p A f) []) s1 (λl s'=>Ba [BB f l] s s') Fg:=λ{f s1} e1 e2 e3=>by
  subst e3
  refine E2 (P:=λl s1=>Ba l (Ab s).2.1 s1) (λl s1 U=>?_) (.nil _)
  simp only [S3,Rd.Al,Rd.AD,Rd.wp_seq,Rd.wp_ret]
  refine gH λs2 g2=>UZ λb s3 g3=>BN (λ_=>.block e1 e2 ((U.pass g2).pass g3)) λ_=>HW hA λn s4 g4=>UZ λb s5 g5=>BN (λ_=>.block e1 e2 ((((U.pass g2).pass g3).snoc g4).pass g5)) λ_=>(((U.pass g2).pass g3).snoc g4).pass g5
 refine BN (λe=>?_) λ_=>?_
 .have hi:Gr (Ab s).1=true:=by rw [beq_iff_eq] at e;simp [Gr,e]
  exact uq hi λ_=>hb (Dn (OR hi).1) hi rfl
 .unfold Bc
  rw [Rd.Al,Rd.AD]
  refine BN (λe=>?_) λ_=>trivial
  have hi:Gr (Ab s).1=true:=by
   unfold AU at e
   simp only [Bool.and_eq_true,beq_iff_eq] at e
   simp [Gr,e.1,e.2]
  exact CH (BA e Do Do) λ_=>hb (Dn (OR hi).1) hi rfl
theorem Md (d:Nat):Dv (C7 d):=Dv.of λs n s' h=>by
 have hd:Dl (Gc (C5 (Dz (d - 1)))):=mO (Z1 (Z2 _))
 refine hd s n s' ?_
 unfold C7 Jf at h
 grind
theorem Z5 {o:Nd} {e:Er}:∀s,Rd.wp (Rd.fail e:Rd Nd) s (λn s'=>∀s0,Ba [o] s0 s->Ba [n] s0 s') Fg:=λs=>trivial
theorem Nf (hL:LR L):Dv (jB L):=Yb hL (Mc hL)
theorem Ky (U:Dv A) (hL:LR L):Dv (PX A L):=rj (Nf hL) U
theorem JX (U:Dv A) (hL:LR L):Dv (MQ A L):=mW hL (Ky U hL)
theorem Z3 (U:Dv A) (hL:LR L):Dv (me A L):=ri hL (PT (Nf hL)) (Ky U hL) (JX U hL)
theorem PR (U:Dv A) (hL:LR L):Dv (FK A L):=mT hL (Mc hL) (PT (Nf hL)) (Ky U hL) (JX U hL) U
theorem tq (U:Dv A) (hL:LR L):LR (uP A L) where
 atom:=Mc hL
 exp:=Ky U hL
 ops:=PT (Nf hL)
 decls:=PQ (PR U hL)
 stmts:=PQ (JX U hL)
 alts:=PQ (Z3 U hL)
 DT:=λo=>gC (Nf hL) U (Ky U hL)
 list:=λo=>mU (Ky U hL) (JX U hL)
theorem Tm:∀d,LR (JL d)
 |0=>⟨λ_=>trivial,λ_=>trivial,λ_=>trivial,λ_=>trivial,λ_=>trivial,λ_=>trivial,λo=>Z5,λo=>Z5⟩
 |d+1=>tq (Md _) (Tm d)
end
end Go.Proofs.Z
namespace Go.Aw
open Go
theorem PK (h:l≠[]) (g:Dh (AL l)=true) (t:List UInt8):AL (l.take (AL l).2++t)=AL l:=by
 rcases l with _|⟨a,r⟩
 .exact absurd rfl h
 revert g
 generalize U:AL (a::r)=x
 have hx0:=U
 unfold AL at U
 dsimp only at U
 intro g
 rcases r with _|⟨b,_|⟨c,_|⟨d,r⟩⟩⟩
 all_goals simp only [List.getElem?_nil,List.getElem?_cons_zero,List.getElem?_cons_succ,List.getD_cons_zero,List.getD_cons_succ,Bool.and_false,Bool.false_eq_true,if_false] at U
 all_goals repeat' split at U
 all_goals subst U
 all_goals first
  |(exfalso;revert g;simp [Dh];done)
  |skip
 all_goals simp only [List.take_succ_cons,List.take_zero,List.cons_append,List.nil_append]
 all_goals unfold AL
 all_goals dsimp only
 all_goals try simp only [List.getElem?_nil,List.getElem?_cons_zero,List.getElem?_cons_succ,List.getD_cons_zero,List.getD_cons_succ]
 all_goals repeat' (first|rfl|rw [if_pos ‹_›]|rw [if_neg ‹_›])
theorem PJ (h:l≠[]) (g:Dh (AL l)=true) (t:List UInt8):AL (l++t)=AL l:=by
 have:=PK h g (l.drop (AL l).2++t)
 rwa [<-List.append_assoc,List.take_append_drop] at this
theorem SA {p:Nat×Nat->Bool} (l t:List UInt8) (g:Bs Dh l=l.length):Bs p (l++t)=if Bs p l=l.length then l.length+Bs p t else Bs p l:=by
 fun_induction Bs p l with
 |case1=>simp
 |case2 a r hp ih=>
  have hne:a::r≠[]:=GT
  have U:Dh (AL (a::r))=true:=by
   cases hg:Dh (AL (a::r)) with
   |true=>rfl
   |false=>rw [EU hg] at g;simp at g
  have hle:=Gw hne
  rw [CA hne U] at g
  have g':Bs Dh ((a::r).drop (AL (a::r)).2)=((a::r).drop (AL (a::r)).2).length:=M2
  have ih:=ih g'
  rw [CA GT (by rw [PJ hne U];exact hp),PJ hne U,List.drop_append_of_le_length hle,ih,List.length_drop]
  have hsl:=MN p ((a::r).drop (AL (a::r)).2)
  rw [List.length_drop] at hsl
  by_cases hc:Bs p ((a::r).drop (AL (a::r)).2)=(a::r).length - (AL (a::r)).2
  .rw [if_pos hc,if_pos AC];omega
  .rw [if_neg hc,if_neg AC]
 |case3 a r hp=>
  have hne:a::r≠[]:=GT
  have U:Dh (AL (a::r))=true:=by
   cases hg:Dh (AL (a::r)) with
   |true=>rfl
   |false=>rw [EU hg] at g;simp at g
  rw [EU (by rw [PJ hne U];simpa using hp),if_neg GT]
def Vd (l:List UInt8):Prop:=Bs Dh l=l.length
theorem Vd.rune (h:Vd l) (hne:l≠[]):Dh (AL l)=true/\Vd (l.drop (AL l).2):=by
 have U:Dh (AL l)=true:=by
  cases U:Dh (AL l) with
  |true=>rfl
  |false=>
   unfold Vd at h
   rw [EU U] at h
   grind
 refine ⟨U,?_⟩
 unfold Vd at h |-
 rw [CA hne U] at h
 grind
theorem Vd.nil:Vd []:=Ey _
theorem Vd.app (h:Vd l) (k:Vd t):Vd (l++t):=by
 unfold Vd at *
 rw [SA l t h,if_pos h,k,List.length_append]
inductive Bd:List UInt8->Nat->Prop
 |zero (l:List UInt8):Bd l 0
 |step {l:List UInt8} {k:Nat}:l≠[]->Bd (l.drop (AL l).2) k->Bd l ((AL l).2+k)
theorem Bd.add {i j:Nat} (h:Bd l i) (k:Bd (l.drop i) j):Bd l (i+j):=by
 induction h with
 |zero l=>simp_all
 |step U h ih=>
  rw [Nat.add_assoc]
  refine .step U (ih ?_)
  simp_all
theorem Bd.vd {i:Nat} (h:Bd l i) (k:Vd l):Vd (l.drop i):=by
 induction h with
 |zero l=>exact k
 |step U h ih=>
  have:=ih (k.rune U).2
  simp_all
theorem Bd.span (p:Nat×Nat->Bool) (l:List UInt8):Bd l (Bs p l):=by
 fun_induction Bs p l with
 |case1=>exact .zero _
 |case2 a r hp U=>exact .step GT U
 |case3 a r hp=>exact .zero _
theorem Bd.one (h:l≠[]):Bd l (AL l).2:=by
 have:=Bd.step h (.zero (l.drop (AL l).2))
 omega
theorem cw (h:l≠[]) (g:Dh (AL l)=true) (k:Nat) (hk:1<=k) (U:k<(AL l).2):∃b,l[k]? =some b/\128<=b.toNat:=by
 rcases l with _|⟨a,r⟩
 .simp_all
 revert g U
 generalize hx:AL (a::r)=x
 unfold AL at hx
 dsimp only at hx
 intro g U
 have d2:∀b:UInt8,(b.toNat / 64==2)=true->128<=b.toNat:=λb hb=>by grind
 rcases r with _|⟨b,_|⟨c,_|⟨d,r⟩⟩⟩
 all_goals simp only [List.getElem?_nil,List.getElem?_cons_zero,List.getElem?_cons_succ,List.getD_cons_zero,List.getD_cons_succ,Bool.and_false,Bool.false_eq_true,if_false] at hx
 all_goals repeat' split at hx
 all_goals subst hx
 all_goals first
  |(exfalso;revert g;simp [Dh];done)
  |skip
 all_goals first
  |(exfalso;have U:k<1:=U;omega)
  |skip
 all_goals simp only [Bool.and_eq_true] at *
 all_goals have hk':k=1\/k=2\/k=3:=by first|omega|(dsimp only at U;omega)
 all_goals rcases hk' with rfl|rfl|rfl
 all_goals first
  |(exfalso;omega)
  |(exfalso;dsimp only at U;omega)
  |skip
 all_goals refine ⟨_,rfl,d2 _ ?_⟩
 all_goals simp only [beq_iff_eq] at *
 all_goals omega
theorem Bd.p4 {b:UInt8} (hv:Vd l) (hb:l[k]? =some b) (h:b.toNat<128):Bd l k/\Bd l (k+1):=by
 induction hn:l.length using Nat.strongRecOn generalizing l k with
 |_ n ih=>
  have U:l≠[]:=λe=>by simp_all
  obtain ⟨g,hv'⟩:=hv.rune U
  have hp:=D9 l
  have hle:=Gw U
  by_cases hk:k<(AL l).2
  .by_cases h0:k=0
   .subst h0
    refine ⟨.zero l,?_⟩
    cases l with
    |nil=>simp_all
    |cons a r=>
     simp only [List.getElem?_cons_zero,Option.some.injEq] at hb
     subst hb
     have e:AL (a::r)=(a.toNat,1):=by unfold AL;dsimp only;rw [if_pos AC]
     have:=Bd.one U
     simp_all
   .obtain ⟨b',h1,h2⟩:=cw U g k AC hk
    grind
  .obtain ⟨j,rfl⟩:∃j,k=(AL l).2+j:=⟨k - (AL l).2,AC⟩
   have:=ih (l.drop (AL l).2).length (by grind) hv' (k:=j) kw rfl
   exact ⟨.step U this.1,by rw [Nat.add_assoc];exact .step U this.2⟩
inductive BF:List UInt8->Nat->Prop
 |zero (l:List UInt8):BF l 0
 |step {l:List UInt8} {k:Nat}:l≠[]->BF (l.drop (AX l)) k->BF l (AX l+k)
theorem Fb (l:List UInt8):(Hl l=0/\¬(AY l=13\/AY l=10\/AY l=12))\/(Hl l=1/\(AY l=13\/AY l=10\/AY l=12)/\¬(AY l=13/\AY (l.drop 1)=10))\/(Hl l=2/\AY l=13/\AY (l.drop 1)=10):=by
 unfold Hl
 grind
theorem EZ (U:0<=AY l) (h:AY l<128):(AL l).2=1/\(((AL l).1:Nat):Int)=AY l:=by
 cases l with
 |nil=>exact absurd U Do
 |cons a r=>
  have h:((a.toNat:Nat):Int)<128:=h
  have e:AL (a::r)=(a.toNat,1):=by unfold AL;dsimp only;rw [if_pos AC]
  rw [e];exact ⟨rfl,rfl⟩
theorem Bd.cut (h:Bd l k) (hn:¬(0<k/\AY (l.drop (k - 1))=13/\AY (l.drop k)=10)):BF l k:=by
 induction hm:l.length using Nat.strongRecOn generalizing l k with
 |_ n ih=>
  cases h with
  |zero=>exact .zero l
  |@step _ j U h=>
   have hp:=D9 l
   have hle:=Gw U
   rcases Fb l with ⟨e,h1⟩|⟨e,h1,h2⟩|⟨e,h1,h2⟩
   .have es:AX l=(AL l).2:=by unfold AX;rw [if_neg AC]
    rw [<-es]
    refine .step U ?_
    rw [es]
    refine ih _ (by grind) h (λhc=>hn ⟨AC,?_,?_⟩) rfl
    .have:=hc.2.1;rw [List.drop_drop] at this;rwa [show (AL l).2+j - 1=(AL l).2+(j - 1) by omega]
    simp_all
   .have ed:=EZ (l:=l) AC AC
    have es:AX l=(AL l).2:=by unfold AX;rw [if_pos AC,e,ed.1]
    rw [<-es]
    refine .step U ?_
    rw [es]
    refine ih _ (by grind) h (λhc=>hn ⟨AC,?_,?_⟩) rfl
    .have:=hc.2.1;rw [List.drop_drop] at this;rwa [show (AL l).2+j - 1=(AL l).2+(j - 1) by omega]
    .have:=hc.2.2;rwa [List.drop_drop] at this
   .have ed:=EZ (l:=l) AC AC
    rw [ed.1] at h hn |-
    have es:AX l=2:=by unfold AX;rw [if_pos AC,e]
    cases h with
    |zero=>simp_all
    |@step _ j hne' h=>
     have ed':=EZ (l:=l.drop 1) AC AC
     rw [ed'.1] at h hn |-
     rw [show 1+(1+j)=AX l+j by omega]
     refine .step U ?_
     rw [es]
     rw [List.drop_drop] at h
     have hl2:l.length≠0:=by have:=List.length_pos_iff.2 U;omega
     refine ih _ (by grind) h (λhc=>hn ⟨AC,?_,?_⟩) rfl
     .have:=hc.2.1;rw [List.drop_drop] at this;grind
     .have:=hc.2.2;rw [List.drop_drop] at this;grind
theorem UA:∀(n:Nat) (l:List UInt8) (k:Nat) (p:Int×Int),l.length<=n->1<=p.2->p.1<=(BQ l k p).1/\(BQ l k p).1<=p.1+l.length/\1<=(BQ l k p).2/\(BQ l k p).2<=p.2+8*l.length
 |n,[],k,p,_,h=>by rw [F2];simp only [List.length_nil];omega
 |0,a::r,k,p,hn,h=>by simp at hn
 |n+1,a::r,k,p,hn,h=>by
  by_cases U:k<AX (a::r)
  .rw [E5 U];omega
  .rw [Ek GT U]
   have h1:=FC (l:=a::r) GT
   have h2:=Uq (a::r) p.1
   have h3:=Pb (a::r) h
   have hd:((a::r).drop (AX (a::r))).length=(a::r).length - AX (a::r):=List.length_drop
   have ih:=UA n ((a::r).drop (AX (a::r))) (k - AX (a::r)) (EE (a::r) p.1,FB (a::r) p.2) AC h3.1
   dsimp only at ih
   omega
theorem SP:∀(n:Nat) (l:List UInt8) (k:Nat) (x c U y:Int),l.length<=n->(BQ l k (x,c)).1 - x=(BQ l k (y,U)).1 - y
 |n,[],k,x,c,U,y,_=>by rw [F2,F2];omega
 |0,a::r,k,x,c,U,y,hn=>by simp at hn
 |n+1,a::r,k,x,c,U,y,hn=>by
  by_cases hk:k<AX (a::r)
  .rw [E5 hk,E5 hk];omega
  .rw [Ek GT hk,Ek GT hk]
   have h1:=FC (l:=a::r) GT
   have hd:((a::r).drop (AX (a::r))).length=(a::r).length - AX (a::r):=List.length_drop
   have ih:=SP n ((a::r).drop (AX (a::r))) (k - AX (a::r)) (EE (a::r) x) (FB (a::r) c) (FB (a::r) U) (EE (a::r) y) AC
   have e:EE (a::r) x - x=EE (a::r) y - y:=by unfold EE;split<;>omega
   dsimp only
   omega
theorem XG:∀(n:Nat) (l:List UInt8) (k:Nat) (x c y:Int),l.length<=n->(BQ l k (x,c)).2=(BQ l k (y,c)).2
 |n,[],k,x,c,y,_=>by rw [F2,F2]
 |0,a::r,k,x,c,y,hn=>by simp at hn
 |n+1,a::r,k,x,c,y,hn=>by
  by_cases U:k<AX (a::r)
  .rw [E5 U,E5 U]
  .rw [Ek GT U,Ek GT U]
   have h1:=FC (l:=a::r) GT
   have hd:((a::r).drop (AX (a::r))).length=(a::r).length - AX (a::r):=List.length_drop
   exact XG n _ _ _ _ _ AC
def Cf (d:Nat) (l:List UInt8):Option Nat:=
 match l with
 |[]=>none
 |a::r=>
  if (a.toNat:Int)=123/\AY r=45 then (Cf (d+1) (r.drop 1)).map (·+2)
  else if (a.toNat:Int)=45/\AY r=125 then (if d<=1 then some 2 else (Cf (d - 1) (r.drop 1)).map (·+2))
  else (Cf d r).map (·+1)
termination_by l.length
decreasing_by all_goals simp only [List.length_drop,List.length_cons];omega
def EC (pos:Nat) (o:Option Nat):Int:=match o with
 |none=> -1
 |some n=>(pos+n:Nat)
theorem Ng {o:Option Nat}:EC pos (o.map (·+k))=EC (pos+k) o:=by
 cases o with
 |none=>rfl
 |some n=>simp only [EC,Option.map_some];omega
theorem jl (h:¬pos<s.length):EC pos (Cf d (s.drop pos))= -1:=by
 rw [List.drop_eq_nil_iff.2 AC,Cf];rfl
theorem dq (U:AY (s.drop pos)=123) (h2:AY (s.drop (pos+1))=45):EC pos (Cf d (s.drop pos))=EC (pos+2) (Cf (d+1) (s.drop (pos+2))):=by
 have hp:pos<s.length:=by
  by_cases hp:pos<s.length
  .exact hp
  .rw [G6 AC] at U;exact absurd U Do
 rw [List.drop_eq_getElem_cons hp] at U |-
 rw [Cf,if_pos ⟨U,h2⟩,Ng,List.drop_drop]
theorem Qv (U:AY (s.drop pos)=45) (h2:AY (s.drop (pos+1))=125):EC pos (Cf d (s.drop pos))=if d<=1 then ((pos+2:Nat):Int) else EC (pos+2) (Cf (d - 1) (s.drop (pos+2))):=by
 have hp:pos<s.length:=by
  by_cases hp:pos<s.length
  .exact hp
  .rw [G6 AC] at U;exact absurd U Do
 rw [List.drop_eq_getElem_cons hp] at U |-
 have U:((s[pos].toNat:Nat):Int)=45:=U
 rw [Cf,if_neg (λe=>by omega),if_pos ⟨U,h2⟩]
 by_cases hd:d<=1
 .rw [if_pos hd,if_pos hd];rfl
 .rw [if_neg hd,if_neg hd,Ng,List.drop_drop]
theorem om (hp:pos<s.length) (U:¬(AY (s.drop pos)=123/\AY (s.drop (pos+1))=45)) (h2:¬(AY (s.drop pos)=45/\AY (s.drop (pos+1))=125)):EC pos (Cf d (s.drop pos))=EC (pos+1) (Cf d (s.drop (pos+1))):=by
 rw [List.drop_eq_getElem_cons hp] at U h2 |-
 have U:¬(((s[pos].toNat:Nat):Int)=123/\AY (s.drop (pos+1))=45):=U
 have h2:¬(((s[pos].toNat:Nat):Int)=45/\AY (s.drop (pos+1))=125):=h2
 rw [Cf,if_neg U,if_neg h2,Ng]
def Du:List UInt8->Nat
 |[]=>0
 |a::r=>if 0<Hl (a::r) then 0 else Du r+1
theorem aa (l:List UInt8):Du l<=l.length:=by
 induction l with
 |nil=>exact Nat.le_refl _
 |cons a r U=>unfold Du;split<;>simp only [List.length_cons]<;>omega
theorem ng (h:0<Hl (s.drop pos)):Du (s.drop pos)=0:=by
 cases hs:s.drop pos with
 |nil=>rfl
 |cons a r=>rw [hs] at h;rw [Du,if_pos h]
theorem nf (hp:pos<s.length) (h:¬0<Hl (s.drop pos)):Du (s.drop pos)=Du (s.drop (pos+1))+1:=by
 rw [List.drop_eq_getElem_cons hp] at h |-
 rw [Du,if_neg h]
theorem gR (hp:¬pos<s.length):Du (s.drop pos)=0:=by
 rw [List.drop_eq_nil_iff.2 AC];rfl
theorem dd (s:List UInt8) (U pos:Nat) (h:U<=pos) (hpl:pos<=s.length):∃r,DM s U pos=(s.take (pos+Du (s.drop pos))).drop U::r:=by
 fun_induction DM s U pos with
 |case1 U pos hp hn ih=>rw [ng hn];exact ⟨_,rfl⟩
 |case2 U pos hp hn ih=>
  obtain ⟨r,e⟩:=ih AC AC
  rw [nf hp hn]
  exact ⟨r,by rw [e,show pos+1+Du (s.drop (pos+1))=pos+(Du (s.drop (pos+1))+1) by omega]⟩
 |case3 U pos hp=>
  rw [gR hp,List.take_of_length_le AC];exact ⟨[],rfl⟩
def EI (l:List UInt8):Nat:=
 let n:=BW (λc=>AF c==5) l
 if 2<=n/\(l.take n).all (λb=>b==45)=true then n+Du (l.drop n) else 0
def DF (l:List UInt8):Int:=
 if AY l=123/\AY (l.drop 1)=45 then EC 2 (Cf 1 (l.drop 2))
 else if AY l=45 then (EI l:Nat) else 0
def CE (s:List UInt8) (pos:Nat):Int×Int:=
 if DF (s.drop pos)<0 then (0,60) else if DF (s.drop pos)=0 then (0,0) else (pos+DF (s.drop pos),0)
theorem jk (d:Nat) (l:List UInt8) (n:Nat) (h:Cf d l=some n):n<=l.length:=by
 fun_induction Cf d l generalizing n with
 |case1=>cases h
 |case2 d a r hc ih=>
  obtain ⟨m,hm,rfl⟩:=Option.map_eq_some_iff.1 h
  have:=ih m hm
  have hr:r≠[]:=λe=>by rw [e] at hc;exact absurd hc.2 Do
  have:=List.length_pos_iff.2 hr
  simp only [List.length_drop,List.length_cons] at *;omega
 |case3 d a r hc U hd=>
  have hr:r≠[]:=λe=>by rw [e] at U;exact absurd U.2 Do
  have:=List.length_pos_iff.2 hr
  injection h with h
  simp only [List.length_cons] at *;omega
 |case4 d a r hc U hd ih=>
  obtain ⟨m,hm,rfl⟩:=Option.map_eq_some_iff.1 h
  have:=ih m hm
  have hr:r≠[]:=λe=>by rw [e] at U;exact absurd U.2 Do
  have:=List.length_pos_iff.2 hr
  simp only [List.length_drop,List.length_cons] at *;omega
 |case5 d a r hc U ih=>
  obtain ⟨m,hm,rfl⟩:=Option.map_eq_some_iff.1 h
  have:=ih m hm
  simp only [List.length_cons] at *;omega
theorem dG (l:List UInt8):EI l<=l.length:=by
 have h1:=FA (λc=>AF c==5) l
 have U:=aa (l.drop (BW (λc=>AF c==5) l))
 rw [List.length_drop] at U
 unfold EI
 dsimp only
 split<;>omega
theorem VP (l:List UInt8):DF l<=l.length:=by
 have h1:=dG l
 unfold DF
 split
 .rename_i hc
  cases h:Cf 1 (l.drop 2) with
  |none=>simp only [EC];omega
  |some n=>
   have:=jk _ _ _ h
   have U:l.drop 1≠[]:=λe=>by rw [e] at hc;exact absurd hc.2 Do
   have:=List.length_pos_iff.2 U
   simp only [List.length_drop,EC] at *;omega
 .split<;>omega
def Hm (c:Int):Option Int:=
 if c=92\/c=34\/c=39 then some c
 else if c=97 then some 7 else if c=98 then some 8 else if c=116 then some 9 else if c=110 then some 10
 else if c=118 then some 11 else if c=102 then some 12 else if c=114 then some 13 else none
def IB (base:Int):Int->List UInt8->Int
 |v,[]=>v
 |v,a::r=>if BH ((a.toNat:Nat):Int) base<0 then v else IB base (min (v*base+BH ((a.toNat:Nat):Int) base) 1114112) r
def JN (base:Int) (l:List UInt8):Option (Int×Nat):=if BD base l=0\/1114111<IB base 0 l then none else some (IB base 0 l,BD base l)
def ES:List (List UInt8):=[[78,85,76],[83,79,72],[83,84,88],[69,84,88],[69,79,84],[69,78,81],[65,67,75],[66,69,76],[66,83],[72,84],[76,70],[86,84],[70,70],[67,82],[83,79],[83,73],[68,76,69],[68,67,49],[68,67,50],[68,67,51],[68,67,52],[78,65,75],[83,89,78],[69,84,66],[67,65,78],[69,77],[83,85,66],[69,83,67],[70,83],[71,83],[82,83],[85,83],[83,80],[68,69,76]]
def Nn (l:List UInt8):List (List UInt8)->Nat->Nat×Nat->Nat×Nat
 |[],_,p=>p
 |w::U,i,p=>Nn l U (i+1) (if p.2<w.length/\w.isPrefixOf l=true then (i,w.length) else p)
def JM (l:List UInt8):Int×Nat:=(if (Nn l ES 0 (0,0)).1=33 then 127 else (Nn l ES 0 (0,0)).1,(Nn l ES 0 (0,0)).2)
def HK (text:Bool) (l:List UInt8):Option (Int×Nat):=
 match Hm (AY (l.drop 1)) with
 |some v=>some (v,2)
 |none=>
  if AY (l.drop 1)=38/\text=true then some (-1,2)
  else if AY (l.drop 1)=94/\64<=AY (l.drop 2)/\AY (l.drop 2)<=95 then some (AY (l.drop 2) - 64,3)
  else if AY (l.drop 1)=111 then (JN 8 (l.drop 2)).map λp=>(p.1,2+p.2)
  else if AY (l.drop 1)=120 then (JN 16 (l.drop 2)).map λp=>(p.1,2+p.2)
  else if 48<=AY (l.drop 1)/\AY (l.drop 1)<=57 then (JN 10 (l.drop 1)).map λp=>(p.1,1+p.2)
  else if 0<(JM (l.drop 1)).2 then some ((JM (l.drop 1)).1,1+(JM (l.drop 1)).2) else none
def EM (l:List UInt8):Nat:=
 if AY l=92/\BW (λc=>AF c==1) (l.drop 1)≠0/\AY (l.drop (1+BW (λc=>AF c==1) (l.drop 1)))=92 then BW (λc=>AF c==1) (l.drop 1)+2 else 0
def LZ (d:Nat×Nat):Bool:=AF (d.1:Nat)==0||(AF (d.1:Nat)==1&& !(d.1==32))||(d.1==65533&&d.2==1)
def Jg (text:Bool) (l:List UInt8):Sum Int (Int×Nat):=
 match l with
 |[]=>.inl 50
 |a::r=>
  if AY (a::r)=92 then
   if text=true/\0<EM (a::r) then .inr (-1,EM (a::r))
   else match HK text (a::r) with
    |none=>.inl 51
    |some p=>.inr p
  else if LZ (AL (a::r)) then .inl 50 else .inr (((AL (a::r)).1:Nat),(AL (a::r)).2)
theorem TP (l:List UInt8):∀(U:List (List UInt8)) (i:Nat) (p:Nat×Nat),p.2<=l.length->(Nn l U i p).2<=l.length
 |[],_,p,h=>h
 |w::U,i,p,h=>by
  unfold Nn
  refine TP l U _ _ ?_
  grind
theorem nA (l:List UInt8):EM l<=l.length:=by
 unfold EM
 split
 .rename_i h
  have U:=FA (λc=>AF c==1) (l.drop 1)
  rw [List.length_drop] at U
  have h2:l.drop (1+BW (λc=>AF c==1) (l.drop 1))≠[]:=λe=>by rw [e] at h;exact absurd h.2.2 Do
  grind
 omega
theorem WR (h:Hm c=some v):0<=c/\0<=v:=by
 unfold Hm at h
 grind
theorem OZ {p:Int×Nat} (h:JN base l=some p):1<=p.2/\p.2<=l.length:=by
 unfold JN at h
 split at h
 .cases h
 .injection h with h
  subst h
  exact ⟨AC,Ex base l⟩
theorem af {text:Bool} {p:Int×Nat} (h:HK text l=some p):1<=p.2/\p.2<=l.length:=by
 unfold HK at h
 split at h
 .rename_i v hs
  have:=Ch (l:=l) (k:=1) (WR hs).1
  grind
 .rename_i hs
  have e1:∀k,0<=AY (l.drop k)->k<l.length:=λk=>Ch
  have e2:=e1 1
  have e3:=e1 2
  repeat' split at h
  .grind
  .grind
  .obtain ⟨q,U,rfl⟩:=Option.map_eq_some_iff.1 h
   have:=OZ U
   grind
  .obtain ⟨q,U,rfl⟩:=Option.map_eq_some_iff.1 h
   have:=OZ U
   grind
  .obtain ⟨q,U,rfl⟩:=Option.map_eq_some_iff.1 h
   have:=OZ U
   grind
  .injection h with h;subst h
   have:=TP (l.drop 1) ES 0 (0,0) (Nat.zero_le _)
   rw [List.length_drop] at this
   have h7:(JM (l.drop 1)).2=(Nn (l.drop 1) ES 0 (0,0)).2:=by simp only [JM]
   omega
  grind
theorem Mz {text:Bool} {p:Int×Nat} (h:Jg text l=.inr p):1<=p.2/\p.2<=l.length:=by
 unfold Jg at h
 split at h
 .cases h
 .rename_i a r
  have h1:=D9 (a::r)
  have h2:=Gw (l:=a::r) GT
  have h3:=nA (a::r)
  split at h
  .split at h
   .grind
   .split at h
    .cases h
    .rename_i q U
     injection h with h;subst h;exact af U
  grind
def EW (l:List UInt8):Sum (Nat×Int) Nat:=
 if AY l=34 then .inr 1
 else match h:Jg true l with
  | .inl e=>.inl (0,e)
  | .inr p=>match EW (l.drop p.2) with
    | .inl q=>.inl (q.1+p.2,q.2)
    | .inr n=>.inr (n+p.2)
termination_by l.length
decreasing_by
 have:=Mz h
 grind
def JG (l:List UInt8):List Int:=
 if AY l=34 then []
 else match h:Jg true l with
  | .inl e=>[]
  | .inr p=>if p.1= -1 then JG (l.drop p.2) else p.1::JG (l.drop p.2)
termination_by l.length
decreasing_by
 all_goals
  have:=Mz h
  rw [List.length_drop];omega
def JH (pos:Nat) (l:List UInt8):List (Nat×Nat):=
 if AY l=34 then []
 else match h:Jg true l with
  | .inl e=>[]
  | .inr p=>if 0<EM l then (pos,pos+p.2)::JH (pos+p.2) (l.drop p.2) else JH (pos+p.2) (l.drop p.2)
termination_by l.length
decreasing_by
 all_goals
  have:=Mz h
  rw [List.length_drop];omega
def NV (l:List UInt8):Sum (Nat×Int) Nat:=
 if AY l=39 then .inl (0,50)
 else match Jg false l with
  | .inl e=>.inl (0,e)
  | .inr p=>if AY (l.drop p.2)=39 then .inr (p.2+1) else .inl (p.2,50)
def Cn (s:List UInt8) (pos:Nat):Int×Int×Int:=
 if AY (s.drop pos)=34 then match EW (s.drop (pos+1)) with
  | .inl q=>(0,(pos+1+q.1:Nat),q.2)
  | .inr n=>(14,(pos+1+n:Nat),0)
 else if AY (s.drop pos)=39 then match NV (s.drop (pos+1)) with
  | .inl q=>(0,(pos+1+q.1:Nat),q.2)
  | .inr n=>(13,(pos+1+n:Nat),0)
 else (0,0,0)
theorem BF.add {i j:Nat} (h:BF l i) (k:BF (l.drop i) j):BF l (i+j):=by
 induction h with
 |zero l=>simp_all
 |step U h ih=>
  rw [Nat.add_assoc]
  refine .step U (ih ?_)
  simp_all
theorem BF.bd (h:BF l k):Bd l k:=by
 induction h with
 |zero l=>exact .zero l
 |@step l k U h ih=>
  rcases Fb l with ⟨e,h1⟩|⟨e,h1,h2⟩|⟨e,h1,h2⟩
  .have es:AX l=(AL l).2:=by unfold AX;rw [if_neg AC]
   rw [es] at ih |-;exact .step U ih
  .have ed:=EZ (l:=l) AC AC
   have es:AX l=(AL l).2:=by unfold AX;rw [if_pos AC,e,ed.1]
   rw [es] at ih |-;exact .step U ih
  .have ed:=EZ (l:=l) AC AC
   have ed':=EZ (l:=l.drop 1) AC AC
   have es:AX l=2:=by unfold AX;rw [if_pos AC,e]
   have hne':l.drop 1≠[]:=λe=>by rw [e] at h2;exact absurd h2 Do
   rw [es] at ih |-
   have b1:Bd (l.drop 1) (1+k):=by
    have:=Bd.step hne' (k:=k) kw
    rwa [ed'.1] at this
   have:=Bd.step U (k:=1+k) kw
   grind
theorem BF.one (U:0<=AY l) (h1:AY l<128) (h:¬(AY l=13\/AY l=10\/AY l=12)):BF l 1:=by
 have hne:l≠[]:=λe=>by rw [e] at U;exact absurd U Do
 have ed:=EZ U h1
 have es:AX l=1:=by
  rcases Fb l with ⟨e,_⟩|⟨_,h2,_⟩|⟨_,h2,_⟩
  .unfold AX;simp_all
  .omega
  .omega
 have:=BF.step hne (.zero (l.drop (AX l)))
 simp_all
theorem BF.span {p:Nat×Nat->Bool} (hp:∀d,p d=true->d.1≠10/\d.1≠12/\d.1≠13) (l:List UInt8):BF l (Bs p l):=by
 fun_induction Bs p l with
 |case1=>exact .zero _
 |case2 a r hc ih=>
  have h1:=hp _ hc
  have es:AX (a::r)=(AL (a::r)).2:=by
   unfold AX
   rw [if_neg]
   rcases Fb (a::r) with ⟨e,_⟩|⟨_,U,_⟩|⟨_,U,_⟩
   .omega
   .have:=EZ (l:=a::r) AC AC;omega
   .have:=EZ (l:=a::r) AC AC;omega
  have:=BF.step (l:=a::r) (k:=Bs p ((a::r).drop (AL (a::r)).2)) GT kw
  simp_all
 |case3 a r hc=>exact .zero _
theorem gj {k:Int} (h:AF c=k) (U:k≠1):c≠10/\c≠12/\c≠13:=by
 refine ⟨?_,?_,?_⟩<;>(rintro rfl;exact U (h.symm.trans Do))
theorem BF.kind {k:Int} (U:k≠1) (l:List UInt8):BF l (BW (λc=>AF c==k) l):=by
 refine BF.span (λd hd=>?_) l
 have:=gj (beq_iff_eq.1 hd) U
 omega
theorem BF.name (l:List UInt8):BF l (Lc l):=by
 refine BF.span (λd hd=>?_) l
 have hd:HP ((d.1:Nat):Int)=true:=hd
 refine ⟨?_,?_,?_⟩<;>(intro e;rw [e] at hd;revert hd;decide)
theorem gw {a:UInt8} (h:¬BH ((a.toNat:Nat):Int) base<0):48<=a.toNat/\a.toNat<128:=by
 unfold BH at h
 grind
theorem BF.row (base:Int) (l:List UInt8):BF l (BD base l):=by
 induction l with
 |nil=>exact .zero _
 |cons a r U=>
  unfold BD
  split
  .exact .zero _
  .rename_i h
   have:=gw h
   rw [Nat.add_comm]
   exact BF.add (BF.one (l:=a::r) (show (0:Int)<=((a.toNat:Nat):Int) by omega) (show ((a.toNat:Nat):Int)<128 by omega) (show ¬(((a.toNat:Nat):Int)=13\/((a.toNat:Nat):Int)=10\/((a.toNat:Nat):Int)=12) by omega)) U
theorem BF.uB (l:List UInt8):BF l (H6 l):=by
 unfold H6
 split
 .exact BF.add (BF.one AC AC AC) (BF.row _ _)
 .exact .zero _
theorem BF.sign (l:List UInt8):BF l (Lg l):=by
 unfold Lg
 split
 .exact BF.one AC AC AC
 .exact .zero _
theorem BF.exp (l:List UInt8):BF l (Mf l):=by
 unfold Mf
 split
 .rw [Nat.add_assoc]
  refine BF.add (BF.one AC AC AC) (BF.add (BF.sign _) ?_)
  rw [List.drop_drop]
  exact BF.row _ _
 .exact .zero _
theorem BF.num (l:List UInt8):BF l (D6 l).2:=by
 unfold D6
 split
 .rename_i h
  unfold Cz at h
  split at h
  .rename_i hc
   have hb:=hc.2.1
   unfold EB at hb
   have h1:65<=AY (l.drop 1)/\AY (l.drop 1)<128:=by
    split at hb
    .omega
    .omega
   have U:BF l 2:=BF.add (i:=1) (j:=1) (BF.one AC AC AC) (BF.one AC AC AC)
   exact BF.add U (BF.row _ _)
  omega
 .split
  .exact .zero _
  .refine BF.add (BF.add (BF.row _ _) (BF.uB _)) (BF.exp _)
theorem mF (h:AF c=6):32<c/\c<128:=by
 unfold AF at h
 split at h
 .omega
 .split at h
  .omega
  .split at h
   .omega
   .split at h
    .omega
    .split at h
     .unfold ED at h
      omega
     .unfold L4 at h
      omega
theorem nu (h:G4 l=6):32<AY l/\AY l<128:=by
 cases l with
 |nil=>exact absurd h Do
 |cons a r=>
  have h:AF ((AL (a::r)).1:Nat)=6:=h
  have U:=mF h
  by_cases ha:a.toNat<128
  .rw [Fk ha] at U
   exact U
  .have:=OO (r:=r) ha
   omega
theorem BF.plain (l:List UInt8):BF l (Bt l).2:=by
 unfold Bt
 split
 .rename_i h
  have:=nu h
  exact BF.one AC AC AC
 .split
  .exact BF.kind Do l
  .split
   .exact BF.name l
   .split
    .exact BF.name l
    .exact .zero _
theorem BF.scan (s:List UInt8) (n:Nat) (k:Int) (h:BF s n):BF s (Gg s n k).2:=by
 fun_induction Gg s n k with
 |case1 n k hn hc ih=>
  have hd:AY (s.drop n)=46:=hc.2.1
  have U:=BF.one (l:=s.drop n) AC AC AC
  exact ih (BF.add (BF.add h U) (BF.plain _))
 |case2 n k hn hc=>exact h
 |case3 n k hn=>exact h
theorem BF.word (l:List UInt8):BF l (FE l).2:=BF.scan l _ _ (BF.plain l)
theorem Vd.end (h:Vd l):Bd l l.length:=by
 have:=Bd.span Dh l
 rwa [show Bs Dh l=l.length from h] at this
theorem BF.behind (hv:Vd l) (h0:0<AY (l.drop k)) (h:AY (l.drop k)<128) (hn:AY (l.drop k)≠13):BF l (k+1):=by
 have U:=Ch (l:=l) (k:=k) AC
 have he:=List.getElem?_eq_getElem U
 have e:=Ec he
 refine ((Bd.p4 hv he AC).2).cut (λhc=>hn ?_)
 simp_all
theorem Hb (d:Nat) (l:List UInt8) (n:Nat) (h:Cf d l=some n):2<=n/\AY (l.drop (n - 1))=125:=by
 fun_induction Cf d l generalizing n with
 |case1=>cases h
 |case2 d a r hc ih=>
  obtain ⟨m,U,rfl⟩:=Option.map_eq_some_iff.1 h
  have:=ih m U
  refine ⟨AC,?_⟩
  rw [show m+2 - 1=(m - 1)+1+1 by omega,List.drop_succ_cons]
  simp_all
 |case3 d a r hc hk hd=>
  injection h with h
  subst h
  simp_all
 |case4 d a r hc hk hd ih=>
  obtain ⟨m,U,rfl⟩:=Option.map_eq_some_iff.1 h
  have:=ih m U
  refine ⟨AC,?_⟩
  rw [show m+2 - 1=(m - 1)+1+1 by omega,List.drop_succ_cons]
  simp_all
 |case5 d a r hc hk ih=>
  obtain ⟨m,U,rfl⟩:=Option.map_eq_some_iff.1 h
  have:=ih m U
  refine ⟨AC,?_⟩
  rw [show m+1 - 1=(m - 1)+1 by omega,List.drop_succ_cons]
  omega
theorem BF.vm (hv:Vd l):BF l (Du l):=by
 have hb:Bd l (Du l)/\¬(0<Du l/\AY (l.drop (Du l - 1))=13/\AY (l.drop (Du l))=10):=by
  have key:∀l:List UInt8,(Du l=l.length\/∃b,l[Du l]? =some b/\b.toNat<128)/\¬(0<Du l/\AY (l.drop (Du l - 1))=13):=by
   intro l
   induction l with
   |nil=>exact ⟨.inl rfl,λh=>absurd h.1 Do⟩
   |cons a r ih=>
    by_cases hn:0<Hl (a::r)
    .rw [Du,if_pos hn]
     refine ⟨.inr ⟨a,rfl,?_⟩,λh=>absurd h.1 Do⟩
     rcases Fb (a::r) with ⟨e,_⟩|⟨_,U,_⟩|⟨_,U,_⟩
     .omega
     .simp only [AY] at U;omega
     .simp only [AY] at U;omega
    .rw [Du,if_neg hn]
     refine ⟨?_,?_⟩
     .simp_all
     .rintro ⟨_,h⟩
      by_cases h0:0<Du r
      .refine ih.2 ⟨h0,?_⟩
       rwa [show Du r+1 - 1=(Du r - 1)+1 by omega,List.drop_succ_cons] at h
      .rw [show Du r+1 - 1=0 by omega,List.drop_zero] at h
       rcases Fb (a::r) with ⟨_,e⟩|⟨e,_⟩|⟨e,_⟩
       .omega
       .omega
       .omega
  refine ⟨?_,λh=>(key l).2 ⟨h.1,h.2.1⟩⟩
  rcases (key l).1 with h|⟨b,h1,U⟩
  .rw [h];exact hv.end
  .exact (Bd.p4 hv h1 U).1
 exact hb.1.cut hb.2
theorem BF.note (U:Vd l) (h:DF l=n):BF l n:=by
 unfold DF at h
 split at h
 .rename_i hc
  cases hn:Cf 1 (l.drop 2) with
  |none=>rw [hn] at h;simp only [EC] at h;omega
  |some m=>
   rw [hn] at h
   simp only [EC] at h
   have:=Hb _ _ _ hn
   rw [List.drop_drop] at this
   have e:n=(2+(m - 1))+1:=AC
   rw [e]
   exact BF.behind U AC AC AC
 .split at h
  .have e:n=EI l:=AC
   rw [e]
   unfold EI
   dsimp only
   split
   .exact BF.add (BF.kind Do l) (BF.vm ((Bd.span _ l).vd U))
   .exact .zero _
  .have e:n=0:=AC
   rw [e];exact .zero _
theorem Zu (l:List UInt8) (n:Nat) (h:EW l=.inr n):1<=n/\AY (l.drop (n - 1))=34:=by
 fun_induction EW l generalizing n with
 |case1 l hc=>simp_all
 |case2 l hc e he=>cases h
 |case3 l hc p hp q hq U=>cases h
 |case4 l hc p hp m hm U=>
  injection h with h
  subst h
  have:=U m hm
  refine ⟨AC,?_⟩
  have h2:=this.2
  rwa [List.drop_drop,show p.2+(m - 1)=m+p.2 - 1 by omega] at h2
theorem BF.quote (hv:Vd (s.drop p)) (h:(Cn s p).1≠0):∃n,(Cn s p).2.1=(p+n:Nat)/\2<=n/\BF (s.drop p) n:=by
 unfold Cn at h |-
 split
 .rename_i hq
  rw [if_pos hq] at h
  cases U:EW (s.drop (p+1)) with
  |inl q=>simp_all
  |inr n=>
   have:=Zu _ _ U
   refine ⟨n+1,by grind,AC,?_⟩
   have h2:=this.2
   rw [show s.drop (p+1)=(s.drop p).drop 1 by simp_all,List.drop_drop,show 1+(n - 1)=n by omega] at h2
   exact BF.behind hv AC AC AC
 .rename_i hq
  rw [if_neg hq] at h
  split
  .rename_i hq'
   rw [if_pos hq'] at h
   cases U:NV (s.drop (p+1)) with
   |inl q=>simp_all
   |inr n=>
    have:1<=n/\AY ((s.drop (p+1)).drop (n - 1))=39:=by
     unfold NV at U
     split at U
     .cases U
     .grind
    refine ⟨n+1,by grind,AC,?_⟩
    have h2:=this.2
    rw [show s.drop (p+1)=(s.drop p).drop 1 by simp_all,List.drop_drop,show 1+(n - 1)=n by omega] at h2
    exact BF.behind hv AC AC AC
  simp_all
def St.Kx (st:St) (b:Nat):St:={st with box:=λx=>if x=b then none else st.box x}
theorem St.YE {st:St} (h:st.box b=none):st.le ((st.Aa b cs).Kx b):=
 ⟨λx c e=>by
   simp only [St.Kx,St.Aa]
   grind,λ_ _ e=>e⟩
theorem B1.of_flat {I:Mem} {sz:Nat}:∀{es:List (List V)} {vs:List Value},(∀e ∈ es,e.length=sz)->Aj I es.flatten vs->B1 I sz es vs
 |[],vs,_,h=>by simpa only [List.flatten_nil,Aj,B1] using h
 |e::r,vs,hl,h=>by
  rw [List.flatten_cons] at h
  have U:=Aj.take e.length h
  have h2:=Aj.drop e.length h
  rw [List.take_left' rfl] at U
  rw [List.drop_left' rfl] at h2
  simp only [B1]
  exact ⟨_,_,(List.take_append_drop e.length vs).symm,hl e List.mem_cons_self,U,B1.of_flat (λx hx=>hl x (List.mem_cons_of_mem _ hx)) h2⟩
section
variable {P:Program} {D:List Deferred} {I0 I:Mem} {st0 st:St} {w0 w:World} {β:Nat->Option Nat} {env:Env} {a:Act}
theorem Rel.freeze (h:Rel D I0 st0 w0 I β env st a w) (hb:st.box b=some cs):
 ∃vs:List Value,Aj I cs vs/\I.le (I.add b 0 vs vs.length)/\Rel D I0 st0 w0 (I.add b 0 vs vs.length) β env (st.Kx b) a w:=by
 obtain ⟨vs,ty,hw,hv⟩:=h.s.box b cs hb
 obtain ⟨i1,i2,i3⟩:=h.s.HJ b kw
 have hl:I.le (I.add b 0 vs vs.length):=Mem.Qi (λo _=>i1 o) (.inl i3)
 have hd:=h.fr.K0 b (.inl kw)
 have nb:∀x,(st.Kx b).box x≠none->x≠b/\st.box x≠none:=λx e=>by
  by_cases U:x=b
  .subst U;exact absurd (if_pos rfl) e
  .refine ⟨U,?_⟩
   have e':(if x=b then none else st.box x)≠none:=e
   simp_all
 refine ⟨vs,hv,hl,⟨⟨h.fr.os,h.fr.tape,h.fr.output,h.fr.size,h.fr.Ld,Mem.le_trans h.fr.le hl,?_,?_,λx e=>h.fr.K0 x (e.imp (λe=>(nb x e).2) id)⟩,⟨?_,?_,?_,?_,?_,Tx hl.1 hl.2 h.s.SJ⟩,HG.mem h.f hl ?_⟩⟩
 .intro x o h1 h2
  by_cases e:x=b
  .simp_all
  .exact h.fr.new x o h1 (by simpa [Mem.add,e] using h2)
 .intro x h1 h2
  by_cases e:x=b
  .simp_all
  .exact h.fr.K2 x h1 (by simpa [Mem.add,e] using h2)
 .intro x o v e
  simp only [Mem.add] at e
  split at e
  .rename_i U
   obtain ⟨rfl,h1,h2⟩:=U
   simp only [World.cell?,hw,Option.isSome_none,Bool.false_eq_true,if_false,List.getElem?_toArray]
   exact e
  .exact h.s.cell x o v e
 .intro x n e
  simp only [Mem.add] at e
  split at e
  .simp_all
  .exact h.s.shape x n e
 .intro x c e
  have U:=(nb x kw).1
  have e':st.box x=some c:=by
   have:(if x=b then none else st.box x)=some c:=e
   rwa [if_neg U] at this
  obtain ⟨us,ty',h1,h2⟩:=h.s.box x c e'
  exact ⟨us,ty',h1,Aj.mono hl _ _ h2⟩
 .intro x e
  obtain ⟨U,e'⟩:=nb x e
  obtain ⟨h1,h2,h3⟩:=h.s.HJ x e'
  exact ⟨λo=>by simp [Mem.add,U,h1 o],h2,by simp [Mem.add,U,h3]⟩
 .intro x n e
  have U:x≠b:=λU=>by subst U;rw [show (st.Kx x).hw x=st.hw x from rfl,i2] at e;cases e
  exact ⟨(h.s.hw x n e).1,λo ho=>by simp only [Mem.add];rw [if_neg (by simp [U])];exact (h.s.hw x n e).2 o ho⟩
 .intro id x e
  obtain ⟨h1,h2,h3,h4,h5,h6⟩:=h.f.sep id x e
  have U:x≠b:=λU=>by simp_all
  exact ⟨λo=>by simp [Mem.add,U,h3 o],by simp [Mem.add,U,h4],by grind,h6⟩
theorem Y8 {sz cap:Nat} {es:List (List V)} {rest:List V} {vs:List Value} (hv:Aj I (es.flatten++rest) vs) (hl:I.le (I.add b 0 vs vs.length)) (hz:∀e ∈ es,e.length=sz) (hn:es.length=n) {c:Value} (h:AK I (.FU sz b n cap) c):
 AK (I.add b 0 vs vs.length) (.slice sz es .any) c:=by
 simp only [AK] at h |-
 obtain ⟨rfl,h1,h2,h3⟩:=h
 subst hn
 refine ⟨_,cap,rfl,h1,h2,h3,trivial,.inr rfl,?_⟩
 have U:=Aj.take es.flatten.length hv
 rw [List.take_left' rfl] at U
 refine Cg.add es _ 0 (B1.of_flat hz U) hl λj c e=>?_
 rw [Nat.zero_add]
 have e':vs[j]? =some c:=by
  rw [List.getElem?_take] at e
  split at e
  .exact e
  .cases e
 have:=Mem.Pp (I:=I) (b:=b) (h:=0) (n:=vs.length) e'
 simp_all
inductive qL (o n:V):V->V->Prop
 |same (v:V):qL o n v v
 |here:qL o n o n
inductive XP (o n:V):List V->List V->Prop
 |nil:XP o n [] []
 |cons {v v':V} {l l':List V}:qL o n v v'->XP o n l l'->XP o n (v::l) (v'::l')
theorem qL.rep {o n v U:V} (h:qL o n v U) (hl:I.le J) (k:∀c,AK I o c->AK J n c) {c:Value} (r:AK I v c):AK J U c:=by
 cases h with
 |same=>exact AK.mono hl _ _ r
 |here=>grind
theorem XP.rep {J:Mem} {o n:V}:∀{l l':List V} {vs:List Value},XP o n l l'->I.le J->(∀c,AK I o c->AK J n c)->Aj I l vs->Aj J l' vs
 |_,_,vs,.nil,U,k,r=>by simpa only [Aj] using r
 |_,_,vs,.cons h1 h2,U,k,r=>by
  simp only [Aj] at r |-
  obtain ⟨c,s,rfl,r1,r2⟩:=r
  exact ⟨c,s,rfl,h1.rep U k r1,h2.rep U k r2⟩
inductive bW (o n:V):AA->AA->Prop
 |val {v v':V}:qL o n v v'->bW o n (.ret v) (.ret v')
 |agg {l l':List V}:XP o n l l'->bW o n (.ret (.agg l)) (.ret (.agg l'))
 |Bz {l l':List V}:XP o n l l'->bW o n (.ret (.Bz l)) (.ret (.Bz l'))
theorem bW.rep {J:Mem} {o n:V} {r r':AA} (h:bW o n r r') (hl:I.le J) (k:∀c,AK I o c->AK J n c) {e:Ending} (m:V3 I e r):V3 J e r':=by
 cases e with
 |returned c=>
  cases h with
  |val h=>exact qL.rep h hl k m
  |agg h=>have U:AK I _ c:=m;simp only [AK] at U;obtain ⟨vs,e,m3⟩:=U;show AK J _ _;simp only [AK];exact ⟨vs,e,h.rep hl k m3⟩
  |Bz h=>have U:AK I _ c:=m;simp only [AK] at U;obtain ⟨vs,e,m3⟩:=U;show AK J _ _;simp only [AK];exact ⟨vs,e,h.rep hl k m3⟩
 |panicked chain=>cases h<;>exact m.elim
 |outgrown=>cases h<;>exact m.elim
theorem A9.freeze {f:FuncId} {args:List V} {R R':AA->St->Prop} (h:A9 P f args st R')
 (k:∀r s,R' r s->R r s\/∃b sz n cap es rest r',s.box b=some (es.flatten++rest)/\(∀e ∈ es,e.length=sz)/\es.length=n/\bW (.FU sz b n cap) (.slice sz es .any) r r'/\R r' (s.Kx b)):A9 P f args st R:=by
 refine ⟨λI w U hs ha=>(h.a I w U hs ha).mono ?_,h.b⟩
 rintro e w' ⟨I',st',r,k1,k2,k3,k4⟩
 rcases k r st' k4 with k4|⟨b,sz,n,cap,es,rest,r',g1,g2,g3,g4,g5⟩
 .grind
 have hr:Rel [] I st w I' (λ_=>none) {tmps:=[],boxes:=[],Bm:=0,sz:=0,gl:=[]} st' {tmps:=#[],defers:=[]} w':=
  ⟨k1,k2,⟨rfl,λt v e=>(by cases e),λid cs e=>(by cases e),λid b e=>(by cases e),λi j b e=>(by cases e),λid b e=>(by cases e),rfl⟩⟩
 obtain ⟨vs,hv,hl,hr'⟩:=hr.freeze g1
 exact ⟨_,_,r',hr'.fr,hr'.s,g4.rep hl (λc hc=>Y8 hv hl g2 g3 hc) k3,g5⟩
theorem l8 {c:Code} {env':Env} {st:St} (h:AW P c Q env' st') (he:env'.Ff env) (hs:St.le st' st):AW P c Q env st:=
 λD I0 st0 w0 I β a w U=>h D I0 st0 w0 I _ a w ((U.JA (Env.JC he)).Hn hs)
theorem ZG {c:Code} {st:St} (e:st'=st) (h:AW P c Q env st'):AW P c Q env st:=e ▸ h
theorem A5 {T : List (Nat × Ty)} (hP : SS P T) (gl : List Nat) (hf : P.funcs[f]? = some fn) {c : Code} (hb : fn.body = some c) (hn : (fn.name == "runtime.NumGoroutine") = false) (hle : Nat.ble args.length fn.ntmps = true)
 (h:AW P c (bu T fn (Ends R)) {tmps:=Jy 0 args,boxes:=[],Bm:=0,sz:=fn.ntmps,gl} st):A9 P f args st R:=by
 refine ⟨?_,fn,hf,kw,hn⟩
 intro I w cargs hs hargs
 refine calls_of_wp hf hb ?_
 refine wp_mono (h [] I st w I _ _ w (GW gl hs hargs hle)) ?_
 rintro e a w' ⟨I1,β1,env1,st1,ae,h1,h2,h3⟩
 have hret:(Fq T env1 st1 fn.results.toList λvs=>match vs with
  |[v]=>Ends R (.ret v) st1
  |vs=>Ends R (.ret (.Bz vs)) st1)->
  a.defers=[]/\∃v,(results fn a.tmps).run P w'=.ok v w'/\∃I' st' r,Fr I st w I' st' w'/\Ct I' st' w'/\V3 I' (.returned v) r/\R r st':=by
  intro h3
  obtain ⟨v,c,g1,g2,r2,st2,g3,g4,g5⟩:=CM (P:=P) (R:=Ends R) hP.t h1 h3
  have U:=h1.Hn g4
  refine ⟨h1.f.defers,c,g1,I1,st2,r2,U.fr,U.s,?_,g5⟩
  rcases g3 with rfl|rfl
  .exact g2
  .exact g2.wk
 cases ae with
 |normal=>cases e<;>first|exact hret h3|exact h2.elim
 |exit i=>exact h3.elim
 |goto i=>exact h3.elim
 |ret=>cases e<;>first|exact hret h3|exact h2.elim
 |B0 v=>
  cases e<;>try exact h2.elim
  obtain ⟨r2,st2,g3,g4,g5⟩:=h3
  obtain ⟨c',rfl,h2⟩:=h2
  have U:=h1.Hn g4
  refine ⟨h1.f.defers,I1,st2,r2,U.fr,U.s,?_,g5⟩
  rcases g3 with rfl|rfl
  .exact ⟨c',rfl,h2⟩
  .exact ⟨c',rfl,h2.wk⟩
end
theorem Xn (l:List (List UInt8)):(strs l).length=l.length:=by simp [strs]
theorem ZQ {l:List (List UInt8)} {K:List V->Prop} (h:l[i.toNat]? =some x) (U:0<=i) (k:K [V.str x]):0<=i/\∃e,(strs l)[i.toNat]? =some e/\K e:=
 ⟨U,[V.str x],by simp [strs,h],k⟩
theorem iN {l:List (List UInt8)} {K:Nat->Prop} (k:l.length<4611686018427387904->K l.length):∀m,m=(strs l).length->m<C9->K m:=λm U h=>by
 rw [Xn] at U;subst U;exact k h
theorem K7 {p:UInt8->Bool}:∀(l:List UInt8),(l.dropWhile p).all p=true->l.all p=true
 |[],_=>rfl
 |a::r,h=>by
  rw [List.dropWhile_cons] at h
  by_cases hp:p a=true
  .rw [if_pos hp] at h;rw [List.all_cons,hp,Bool.true_and];exact K7 r h
  simp_all
theorem dropWhile_nil {p:UInt8->Bool}:∀(l:List UInt8),l.dropWhile p=[]↔l.all p=true
 |[]=>by simp
 |a::r=>by
  rw [List.dropWhile_cons,List.all_cons]
  by_cases hp:p a=true
  .rw [if_pos hp,hp,Bool.true_and];exact dropWhile_nil r
  simp_all
theorem SM (l:List UInt8):Lib.trimB l 45=[]↔l.all (λb=>b==45)=true:=by
 unfold Lib.trimB Lib.trimLeftB Lib.trimRightB
 rw [dropWhile_nil,List.all_reverse]
 refine ⟨λh=>?_,λh=>?_⟩
 .have:=K7 _ h
  grind
 .have:l.reverse.dropWhile (λb=>b==45)=[]:=(dropWhile_nil _).2 (by grind)
  simp_all
theorem tP (a b:UInt8) (l:List UInt8):[a,b].isPrefixOf l=decide (AY l=(a.toNat:Nat)/\AY (l.drop 1)=(b.toNat:Nat)):=by
 rcases l with _|⟨x,_|⟨y,r⟩⟩
 .rfl
 .show (a==x&&false)=_
  rw [Bool.and_false]
  refine (decide_eq_false λe=>?_).symm
  have h:(-1:Int)=(b.toNat:Nat):=e.2;omega
 .show (a==x&&(b==y&&true))=decide (((x.toNat:Nat):Int)=(a.toNat:Nat)/\((y.toNat:Nat):Int)=(b.toNat:Nat))
  rw [Bool.and_true,Bool.eq_iff_iff,Bool.and_eq_true,beq_iff_eq,beq_iff_eq,decide_eq_true_iff]
  exact ⟨λe=>by simp_all,λe=>⟨UInt8.toNat_inj.1 AC,UInt8.toNat_inj.1 AC⟩⟩
theorem Zd {w:(AH->Env->St->Prop)->Env->St->Prop} {U:Nat->Option ((AH->Env->St->Prop)->Env->St->Prop)} {st:St}
 (h:w (aq (λl env' st'=>∃y:Empty,(λe:Empty=>(e.elim:Nat)) y=l/\(λ_:Empty=>True) y/\((λe:Empty=>(e.elim:Env)) y).Ff env'/\St.le ((λe:Empty=>(e.elim:St)) y) st') Q) env st):O7 w U Q env st:=
 ⟨Empty,λe=>e.elim,λe=>e.elim,λe=>e.elim,λ_=>True,λe=>e.elim,h,λx=>x.elim⟩
theorem rA {r r':AA} {st:St} (hle:St.le st st') (h:R r st) (e:r=r'):∃r2 U,(r2=r'\/r2=r'.wk)/\St.le U st'/\R r2 U:=⟨r,st,.inl e,hle,h⟩
end Go.Aw
namespace Go.Proofs.Z
open Go Go.Aw
section
variable {st:St} {R:AA->St->Prop}
theorem TY (e:i.toNat=n) (h:R (.ret (.bool (decide (AY (s.drop n)=123/\AY (s.drop (n+1))=45)))) st):PC 130 [.str (s.drop i.toNat),.str [123,45]] st R:=by
 refine Ip ?_
 rw [tP,e,List.drop_drop]
 exact h
theorem mH (e:i.toNat=n) (h:R (.ret (.bool (decide (AY (s.drop n)=45/\AY (s.drop (n+1))=125)))) st):PC 130 [.str (s.drop i.toNat),.str [45,125]] st R:=by
 refine Ip ?_
 rw [tP,e,List.drop_drop]
 exact h
theorem jm (hl:s.length<=100000000) (hs:AY s=123/\AY (s.drop 1)=45) (h:R (.ret (.int .i64 (EC 2 (Cf 1 (s.drop 2))))) st):PC 131 [.str s] st R:=by
 have hs0:AY (s.drop 0)=123:=hs.1
 refine pB Tryz.func131 ?_
 repeat' ((conv=>whnf);first|(refine BX ?_;intros)|(refine BZ ?_ ?_<;>intro _)|refine Zd ?_)
 refine YJ (α:=Nat) (β:=Nat) (λpos d=>[(3,.int .i64 (d:Int)),(4,.int .i64 (pos:Int))]) (λ_ _=>[]) [0] [] (λ_ _=>st)
  (λpos d=>pos<=s.length/\d<=pos/\((pos=0/\d=0)\/(1<=d/\2<=pos/\EC 2 (Cf 1 (s.drop 2))=EC pos (Cf d (s.drop pos))))) (λpos _=>s.length - pos) 0 0 ⟨Nat.zero_le _,Nat.le_refl _,.inl ⟨rfl,rfl⟩⟩ Yl (St.le_refl _) ?_
 rintro pos d ⟨h1,h2,h3⟩
 have q1:=λh=>Ch (l:=s) (k:=pos+1) h
 rcases h3 with ⟨rfl,rfl⟩|⟨h3,h4,h5⟩
 .have hs1:AY (s.drop (0+1))=45:=hs.2
  repeat' ((conv=>whnf);first|(refine BX ?_;intros)|(refine BZ ?_ ?_<;>intro _)|refine TY (n:=0) AC ?_)
  .conv=>whnf
   exact ⟨(2,1),⟨AC,AC,.inr ⟨Nat.le_refl _,Nat.le_refl _,rfl⟩⟩,AC,Yl,St.le_refl _⟩
 repeat' ((conv=>whnf);first|(refine BX ?_;intros)|(refine BZ ?_ ?_<;>intro _)|refine TY (n:=pos) AC ?_|refine mH (n:=pos) AC ?_)
 .have k:AY (s.drop pos)=123/\AY (s.drop (pos+1))=45:=FS
  conv=>whnf
  exact ⟨(pos+2,d+1),⟨AC,AC,.inr ⟨AC,AC,h5.trans (dq k.1 k.2)⟩⟩,AC,Yl,St.le_refl _⟩
 .have k:AY (s.drop pos)=45/\AY (s.drop (pos+1))=125:=FS
  have e:=Qv (d:=d) k.1 k.2
  rw [if_pos AC] at e
  exact fin h (BS AC)
 .have k:AY (s.drop pos)=45/\AY (s.drop (pos+1))=125:=FS
  have e:=Qv (d:=d) k.1 k.2
  rw [if_neg AC] at e
  obtain ⟨U,rfl⟩:∃U,d=U+1:=⟨d - 1,AC⟩
  rw [Nat.add_sub_cancel] at e
  have e2:((U+1:Nat):Int) - 1=(U:Int):=AC
  refine ⟨(pos+2,U),⟨AC,AC,.inr ⟨AC,AC,h5.trans e⟩⟩,AC,?_,St.le_refl _⟩
  rw [<-e2]
  exact Yl
 .conv=>whnf
  exact ⟨(pos+1,d),⟨AC,AC,.inr ⟨AC,AC,h5.trans (om AC AC AC)⟩⟩,AC,Yl,St.le_refl _⟩
 .exact fin h (BS (by rw [h5,jl AC]))
theorem sg (hl:s.length<=100000000) (h:R (.ret (.int .i64 (EI s:Nat))) st):PC 132 [.str s] st R:=by
 have hr:=FA (λc=>AF c==5) s
 generalize hn:BW (λc=>AF c==5) s=n at hr
 have hrun:∀{R:AA->St->Prop},R (.ret (.int .i64 (n:Nat))) st->PC 129 [.str s,.int .i64 0,.int .i64 5] st R:=λh=>qD AC kw
 obtain ⟨rest,hg⟩:=dd (s.drop n) 0 0 (Nat.le_refl _) (Nat.zero_le _)
 rw [List.drop_zero,List.drop_zero,Nat.zero_add] at hg
 have U:∀{R:AA->St->Prop},(∀own:AJ,own.BM st->R (.ret (.slice 1 (strs (((s.drop n).take (Du (s.drop n)))::rest)) own)) (own.st st (((s.drop n).take (Du (s.drop n)))::rest).length))->PC 199 [.str (s.drop (n:Int).toNat)] st R:=
  λh=>aE (by grind) kw
 refine pB Tryz.func132 ?_
 have hel:=aa (s.drop n)
 have hlt:((s.drop n).take (Du (s.drop n))).length=Du (s.drop n):=Pi
 rw [List.length_drop] at hel
 have hrl:EI s=if 2<=n/\(s.take n).all (λb=>b==45)=true then n+Du (s.drop n) else 0:=by unfold EI;rw [hn]
 repeat' ((conv=>whnf);first|(refine BX ?_;intros)|(refine BZ ?_ ?_<;>intro _)|refine hrun ?_|refine sP Do ?_|refine U (λown ho=>?_)|refine ZQ (l:=((s.drop n).take (Du (s.drop n)))::rest) rfl AC ?_)
 .rw [if_neg AC] at hrl
  exact fin h (BS AC)
 .have ht:=(SM (s.take n)).1 (by grind)
  rw [if_pos ⟨AC,ht⟩] at hrl
  exact rA (AJ.BK AC) h (BS AC)
 .have ht:¬(s.take n).all (λb=>b==45)=true:=λe=>absurd ((SM (s.take n)).2 e) (by grind)
  rw [if_neg (λe=>ht e.2)] at hrl
  exact fin h (BS AC)
theorem Sk (h:DF (s.drop pos)<0):CE s pos=(0,60):=if_pos h
theorem aR (h:DF (s.drop pos)=0):CE s pos=(0,0):=by unfold CE;simp_all
theorem dr {n:Int} (h:DF (s.drop pos)=n) (U:0<n) (e:i=pos+n):CE s pos=(i,0):=by unfold CE;grind
theorem Mw {n:Int} (h:DF (s.drop pos)=n) (U:0<n) (e:i=pos+n):AA.ret (.Bz [.int .i64 (CE s pos).1,.int .i64 (CE s pos).2])=AA.ret (.Bz [.int .i64 i,.int .i64 0]):=by rw [dr h U e]
theorem ow (hl:s.length<=100000000) (hp:pos<s.length) (h:R (.ret (.Bz [.int .i64 (CE s pos).1,.int .i64 (CE s pos).2])) st):PC 60 [.str s,.int .i64 pos] st R:=by
 have hle:=VP (s.drop pos)
 rw [List.length_drop] at hle
 have U:(s.drop pos).length<=100000000:=M2
 have d1:(s.drop pos).drop 1=s.drop (pos+1):=List.drop_drop
 obtain ⟨e,he⟩:∃e,s[pos]? =some e:=⟨s[pos],List.getElem?_eq_getElem hp⟩
 have he':s[(pos:Int).toNat]? =some e:=he
 have hh:=Ec he
 refine pB Tryz.func60 ?_
 by_cases hk:AY (s.drop pos)=123/\AY (s.drop (pos+1))=45
 .have hN:DF (s.drop pos)=EC 2 (Cf 1 ((s.drop pos).drop 2)):=if_pos ⟨hk.1,kw⟩
  have hc:∀{R:AA->St->Prop},R (.ret (.int .i64 (DF (s.drop pos)))) st->PC 131 [.str (s.drop (pos:Int).toNat)] st R:=λh=>jm U ⟨hk.1,kw⟩ kw
  repeat' ((conv=>whnf);first|(refine BX ?_;intros)|(refine BZ ?_ ?_<;>intro _)|refine TY (n:=pos) AC ?_|refine hc ?_)
  all_goals first
   |exact fin h (by rw [Sk AC])
   |exact fin h (by rw [aR AC])
   |exact fin h (Mw rfl AC AC)
   |exact fin h (Mw (hN AC) AC AC)
 .have hN:AY (s.drop pos)=45->DF (s.drop pos)=(EI (s.drop pos):Nat):=λe=>by unfold DF;omega
  have hN0:¬AY (s.drop pos)=45->DF (s.drop pos)=0:=λe=>by unfold DF;simp_all
  have hc:∀{R:AA->St->Prop},R (.ret (.int .i64 (EI (s.drop pos):Nat))) st->PC 132 [.str (s.drop (pos:Int).toNat)] st R:=λh=>sg U h
  repeat' ((conv=>whnf);first|(refine BX ?_;intros)|(refine BZ ?_ ?_<;>intro _)|refine TY (n:=pos) AC ?_|refine hc ?_)
  all_goals first
   |exact fin h (by rw [Sk AC])
   |exact fin h (by rw [aR AC])
   |exact fin h (Mw rfl AC AC)
   |exact fin h (Mw (hN AC) AC AC)
end
end Go.Proofs.Z
namespace Go.Aw
open Go
def KZ (l:List UInt8):Int:=if AY l<0 then 0 else AY l
theorem q8 {i:Nat} {e:UInt8} (h:s[i]? =some e):KZ (s.drop i)=(e.toNat:Nat):=by unfold KZ;rw [Ec h,if_neg AC]
theorem fT {i:Nat} (h:s.length<=i):KZ (s.drop i)=0:=by unfold KZ;rw [G6 h];rfl
theorem JT (l:List UInt8):(AY l= -1/\KZ l=0)\/(0<=AY l/\KZ l=AY l):=by
 have:=iz l
 unfold KZ
 split
 .exact .inl ⟨AC,rfl⟩
 .exact .inr ⟨AC,rfl⟩
def l6 (l:List (Nat×Nat)):List (List V):=l.map λp=>[V.int .i64 (p.1:Int),V.int .i64 (p.2:Int)]
def RH (st:St) (n:Nat):AJ->Prop
 | .full=>True
 | .tok b=>st.hw b=some n
 | .any=>False
def fq (st0:St):AJ->Prop
 | .tok b=>st0.fresh b
 |_=>True
def ZJ:AJ->AJ->Prop
 | .tok b,.tok c=>b≠c
 |_,_=>True
structure BU (st0 st:St) (w1:AJ) (n1:Nat) (w2:AJ) (n2:Nat):Prop where
 o1:RH st n1 w1
 o2:RH st n2 w2
 f1:fq st0 w1
 f2:fq st0 w2
 ne:ZJ w1 w2
 le:st0.le st
theorem ZJ.symm {a b:AJ} (h:ZJ a b):ZJ b a:=by
 cases a<;>cases b<;>first|exact h|exact Ne.symm h
theorem BU.swap {st:St} (h:BU st0 st w1 n1 w2 n2):BU st0 st w2 n2 w1 n1:=⟨h.o2,h.o1,h.f2,h.f1,h.ne.symm,h.le⟩
theorem BU.set {st:St} (h:BU st0 st w1 n1 w2 n2) (hb:st0.box b=none) (cs:List V):BU st0 (st.Aa b cs) w1 n1 w2 n2:=
 ⟨by have:=h.o1;cases w1<;>exact this,by have:=h.o2;cases w2<;>exact this,h.f1,h.f2,h.ne,St.Ar h.le hb cs⟩
theorem KL {st:St} {sz bytes:Nat} {es new:List (List V)} (h:BU st0 st w1 n1 w2 n2) (hn:n1=es.length*sz)
 (h1:(es.length+new.length)*bytes<=140737488355328) (h2:es.length+new.length<C9) (h3:(new.all λv=>v.all V.sc)=true) (hne:new≠[])
 (k:∀w1' st',BU st0 st' w1' ((es.length+new.length)*sz) w2 n2->st'.box=st.box->K (.slice sz (es++new.map (·.map V.JI)) w1') st'):Ah sz bytes es w1 new st K:=by
 subst hn
 have frs:∀{x:Nat},st.fresh x->st0.fresh x:=λ{x} hx=>by
  refine ⟨?_,?_⟩
  .cases e:st0.box x with
   |none=>rfl
   |some c=>have:=h.le.1 _ _ e;rw [hx.1] at this;cases this
  .cases e:st0.hw x with
   |none=>rfl
   |some c=>have:=h.le.2 _ _ e;rw [hx.2] at this;cases this
 refine ⟨h1,h2,AQ h3 ?_⟩
 cases hw:w1 with
 |any=>have:=h.o1;rw [hw] at this;exact this
 |full=>
  refine ⟨λe=>absurd e hne,λ_=>.inl λb hb=>k (.tok b) _ ⟨?_,?_,frs hb,h.f2,?_,St.Ig h.le (frs hb).2 _⟩ rfl⟩
  .simp [RH,St.B3]
  .have:=h.o2
   cases w2 with
   |tok c=>
    have hc:st.hw c=some n2:=this
    have:c≠b:=λe=>by subst e;rw [hb.2] at hc;cases hc
    simp [RH,St.B3,this,hc]
   |_=>exact this
  .cases w2 with
   |tok c=>
    have hc:st.hw c=some n2:=h.o2
    exact λe=>by subst e;rw [hb.2] at hc;cases hc
   |_=>trivial
 |tok b=>
  subst hw
  have hb:st.hw b=some (es.length*sz):=h.o1
  have hb0:st0.fresh b:=h.f1
  refine ⟨hb,.inl λb' U=>k (.tok b') _ ⟨?_,?_,?_,h.f2,?_,?_⟩ rfl⟩
  .simp [RH,St.B3]
  .have:=h.o2
   cases w2 with
   |tok c=>
    have hc:st.hw c=some n2:=this
    have hcb:b≠c:=h.ne
    have hcb':c≠b':=λe=>by
     subst e
     rcases U with e|U
     .exact hcb e.symm
     .rw [U.2] at hc;cases hc
    simp [RH,St.B3,St.EG,hcb',hcb.symm,hc]
   |_=>exact this
  .rcases U with rfl|U
   .exact hb0
   .exact frs U
  .cases w2 with
   |tok c=>
    have hc:st.hw c=some n2:=h.o2
    have hcb:b≠c:=h.ne
    refine λ(e:b'=c)=>?_
    subst e
    rcases U with e|U
    .exact hcb e.symm
    .rw [U.2] at hc;cases hc
   |_=>trivial
  .refine ⟨λx cs e=>h.le.1 x cs e,λx n e=>?_⟩
   have e1:=h.le.2 x n e
   have hx:x≠b:=λhx=>by subst hx;rw [hb0.2] at e;cases e
   have hx':x≠b':=λhx=>by
    subst hx
    rcases U with e'|U
    .exact hx e'
    .rw [U.2] at e1;cases e1
   simp [St.B3,St.EG,hx,hx',e1]
theorem Hy (l:List Int):(ints l).length=l.length:=by simp [ints]
theorem Jk (l:List (Nat×Nat)):(l6 l).length=l.length:=by simp [l6]
theorem V7 {st:St} (h:BU st0 st w1 o.length w2 n2) (hl:o.length<=1000000000)
 (k:∀U st',BU st0 st' U (o++[v]).length w2 n2->st'.box=st.box->K (.slice 1 (ints (o++[v])) U) st'):Ah 1 8 (ints o) w1 [[.int .i64 v]] st K:=by
 refine KL h (by rw [Hy];omega) (by rw [Hy,List.length_singleton];omega) (by rw [Hy,List.length_singleton];unfold C9;omega) rfl GT (λU st' hr hb=>?_)
 have:=k U st' (by rw [Hy] at hr;rw [List.length_append];simpa using hr) hb
 rwa [show ints (o++[v])=ints o++([[V.int .i64 v]]:List (List V)).map (·.map V.JI) by simp [ints,V.JI]] at this
theorem dI {st:St} {p:Nat×Nat} {a b:Int} (h:BU st0 st w1 n1 w2 (2*g.length)) (hl:g.length<=1000000000) (ha:a=(p.1:Int)) (hb:b=(p.2:Int))
 (k:∀U st',BU st0 st' w1 n1 U (2*(g++[p]).length)->st'.box=st.box->K (.slice 2 (l6 (g++[p])) U) st'):Ah 2 16 (l6 g) w2 [[.int .i64 a,.int .i64 b]] st K:=by
 subst ha;subst hb
 refine KL h.swap (by rw [Jk];omega) (by rw [Jk,List.length_singleton];omega) (by rw [Jk,List.length_singleton];unfold C9;omega) rfl GT (λw1' st' hr hb=>?_)
 have:=k w1' st' (by rw [Jk] at hr;rw [List.length_append];have:=hr.swap;simpa [Nat.mul_comm] using this) hb
 rwa [show l6 (g++[p])=l6 g++([[V.int .i64 (p.1:Int),V.int .i64 (p.2:Int)]]:List (List V)).map (·.map V.JI) by simp [l6,V.JI]] at this
theorem St.AM (st:St) (b:Nat) (cs:List V):(st.Aa b cs).box b=some cs:=by simp [St.Aa]
theorem Am {st:St} {K:List V->Prop} (h:st.box b=some cs) (k:K cs):∃cs,st.box b=some cs/\K cs:=⟨cs,h,k⟩
end Go.Aw
namespace Go.Proofs.Z
open Go Go.Aw
def Lm (c:Int):Int:=if c=97 then 0 else if c=98 then 1 else if c=116 then 2 else if c=110 then 3 else if c=118 then 4 else if c=102 then 5 else if c=114 then 6 else -1
theorem qR (u:UInt8):Lib.indexByte [97,98,116,110,118,102,114] u=Lm (u.toNat:Nat):=by
 have key:∀k:UInt8,((u.toNat:Nat):Int)=((k.toNat:Nat):Int)->u=k:=λk e=>UInt8.toNat_inj.1 AC
 unfold Lm
 by_cases U:((u.toNat:Nat):Int)=97
 .rw [key 97 U];rfl
 by_cases h2:((u.toNat:Nat):Int)=98
 .rw [key 98 h2];rfl
 by_cases h3:((u.toNat:Nat):Int)=116
 .rw [key 116 h3];rfl
 by_cases h4:((u.toNat:Nat):Int)=110
 .rw [key 110 h4];rfl
 by_cases h5:((u.toNat:Nat):Int)=118
 .rw [key 118 h5];rfl
 by_cases h6:((u.toNat:Nat):Int)=102
 .rw [key 102 h6];rfl
 by_cases h7:((u.toNat:Nat):Int)=114
 .rw [key 114 h7];rfl
 rw [if_neg U,if_neg h2,if_neg h3,if_neg h4,if_neg h5,if_neg h6,if_neg h7]
 have ne:∀k:UInt8,¬((u.toNat:Nat):Int)=((k.toNat:Nat):Int)->(k==u)=false:=λk e=>beq_eq_false_iff_ne.2 (λx=>e (by rw [x]))
 simp only [Lib.indexByte,ne 97 U,ne 98 h2,ne 116 h3,ne 110 h4,ne 118 h5,ne 102 h6,ne 114 h7]
 rfl
def qC (s:List UInt8) (p:Nat) (tx:Bool) (o:List Int) (w1:AJ) (g:List (Nat×Nat)) (w2:AJ):List V:=[.str s,.int .i64 (p:Int),.bool tx,.slice 1 (ints o) w1,.slice 2 (l6 g) w2]
def Jl (p:Int) (e:Int):V:=.iface 232 (.agg [.int .i64 p,.int .i64 e])
section
variable {st:St} {R:AA->St->Prop}
theorem F7 {v:V} {p e:Int} (h:R (.B0 (Jl p e)) st):PC 377 [v,.int .i64 p,.int .i64 e] st R:=by
 refine pB Tryz.func377 ?_
 repeat' ((conv=>whnf);first|(refine BX ?_;intros)|(refine BZ ?_ ?_<;>intro _)|fail)
 all_goals exact fin h rfl
theorem EL (hl:s.length<=100000000) (hp:p<=s.length) (hk:k<=10) (hb:st.box b=some (qC s p tx o w1 g w2))
 (h:R (.ret (.int .u8 (KZ (s.drop (p+k))))) st):PC 375 [.ptr b 0,.int .i64 k] st R:=by
 refine pB Tryz.func375 ?_
 have e0:((p:Int)+(k:Int)).toNat=p+k:=AC
 by_cases U:p+k<s.length
 .obtain ⟨e,he⟩:∃e,s[p+k]? =some e:=⟨s[p+k],List.getElem?_eq_getElem U⟩
  have he':s[((p:Int)+(k:Int)).toNat]? =some e:=by rw [e0];exact he
  rw [q8 he] at h
  repeat' ((conv=>whnf);first|exact DC|(refine BX ?_;intros)|(refine DD ?_ ?_ ?_;rotate_left)|(refine BZ ?_ ?_<;>intro _)|refine Am hb ?_|with_reducible refine WF ?_)
  all_goals exact fin h rfl
 .rw [fT AC] at h
  repeat' ((conv=>whnf);first|exact DC|(refine BX ?_;intros)|(refine DD ?_ ?_ ?_;rotate_left)|(refine BZ ?_ ?_<;>intro _)|refine Am hb ?_|with_reducible refine WF ?_)
  all_goals exact fin h rfl
theorem ta (U:0<=c) (h1:c<=255) (h:R (.ret (.int .i64 (Lm c))) st):PC 407 [.str [97,98,116,110,118,102,114],.int .u8 c] st R:=by
 obtain ⟨u,rfl⟩:∃u:UInt8,c=((u.toNat:Nat):Int):=⟨UInt8.ofNat c.toNat,by rw [UInt8.toNat_ofNat'];omega⟩
 exact rb (by rw [qR];exact h)
def sC:Option Int->V
 |some v=>.Bz [.int .i64 v,.bool true]
 |none=>.Bz [.int .i64 0,.bool false]
theorem kE (U:0<=c) (h1:c<=255) (h:R (.ret (sC (Hm c))) st):PC 424 [.int .u8 c] st R:=by
 have ha:(Lm c= -1/\¬(c=97\/c=98\/c=116\/c=110\/c=118\/c=102\/c=114))\/(0<=Lm c/\Lm c<=6/\((c=97/\Lm c=0)\/(c=98/\Lm c=1)\/(c=116/\Lm c=2)\/(c=110/\Lm c=3)\/(c=118/\Lm c=4)\/(c=102/\Lm c=5)\/(c=114/\Lm c=6))):=by
  unfold Lm
  (repeat' split)<;>first|(left;omega)|(right;omega)
 refine pB Tryz.func424 ?_
 repeat' ((conv=>whnf);first|(refine BX ?_;intros)|(refine BZ ?_ ?_<;>intro _)|refine ta U h1 ?_)
 all_goals first
  |exact fin h (by rw [show Hm c=some c by unfold Hm;rw [if_pos AC]];rfl)
  |(have e:Hm c=some (7+Lm c):=by
     unfold Hm
     rw [if_neg AC]
     (repeat' split)<;>first|(congr 1;omega)|(exfalso;omega)
    exact fin h (by rw [e];rfl))
  |(have e:Hm c=none:=by
     unfold Hm
     rw [if_neg AC]
     (repeat' split)<;>first|rfl|(exfalso;omega)
    exact fin h (by rw [e];rfl))
end
end Go.Proofs.Z
namespace Go.Proofs.Z
open Go Go.Aw Go.Shelf
theorem dP {I : Mem} {st : St} {w : World} (hs : Ct I st w) : Lib.TabIs Tryz.prog w "strings.asciiSpace" .u8 Lib.asciiSpaceTab := by
 obtain ⟨c,ty,h1,h2⟩:=hs.shape 3 256 hs.SJ.kI
 have hg : Tryz.prog.globalNamed "strings.asciiSpace" = some 3 := by kernel_rfl
 unfold Lib.TabIs World.var?
 rw [hg]
 simp only [Option.bind_some,h1,Option.some.injEq]
 have hlen:Lib.asciiSpaceTab.length=256:=GE
 refine Array.ext (by rw [h2];simp [hlen]) λi hi hi'=>?_
 have U:=hs.cell _ _ _ (hs.SJ.space i AC)
 simp only [World.cell?,h1,Option.isSome_none,Bool.false_eq_true,if_false] at U
 rw [Array.getElem?_eq_getElem hi] at U
 injection U with U
 rw [U]
 have hi2:i<Lib.asciiSpaceTab.length:=by rw [hlen];omega
 simp [List.getD_eq_getElem?_getD,List.getElem?_eq_getElem hi2]
section
variable {st:St} {R:AA->St->Prop}
theorem im (hz:s.length<4294967281) (ha:∀b ∈ s,b.toNat<128) (h:R (.ret (.slice 1 (strs (Lib.fields s)) .any)) st) (hl:∀x ∈ Lib.fields s,x.length<C9) (hn:(Lib.fields s).length<C9):PC 428 [.str s] st R:=by
 refine ⟨λI w U hs hc=>?_,⟨_,Tryz.func428,Do,Do⟩⟩
 simp only [Aj,AK] at hc
 obtain ⟨c,r,rfl,⟨rfl,_⟩,rfl⟩:=hc
 refine (Tryz.strings_Fields ⟨s.toArray⟩ w (by show s.toArray.size<_;simpa using hz) (λj b e=>ha b (List.mem_of_getElem? (by simpa using e))) (dP hs)).mono λe w' ⟨he,hw⟩=>?_
 subst hw
 obtain ⟨h1,h2,h3⟩:=hs.row ((Lib.fields s).map λl=>Value.string ⟨l.toArray⟩) 9
 refine ⟨_,_,.ret _,h1,h2,?_,h⟩
 subst he
 exact jR (Lib.fields s) hl hn h3
end
def Yu (p:Nat->Bool) (s:List UInt8):Int:=if Bs (λd=> !(p d.1)) s<s.length then (Bs (λd=> !(p d.1)) s:Nat) else -1
theorem idx_eq (p:Nat->Bool) (s:List UInt8):∀(f pos:Nat),pos<=s.length->s.length - pos<=f->Lib.idxFuncFrom p true ⟨s.toArray⟩ f pos=if Bs (λd=> !(p d.1)) (s.drop pos)<s.length - pos then ((pos+Bs (λd=> !(p d.1)) (s.drop pos):Nat):Int) else -1
 |0,pos,h1,h2=>by
  rw [if_neg AC];rfl
 |f+1,pos,h1,h2=>by
  unfold Lib.idxFuncFrom
  have hz:(⟨s.toArray⟩:ByteArray).size=s.length:=by simp [ByteArray.size]
  rw [hz]
  by_cases hp:pos<s.length
  .rw [if_pos hp,Ta hp]
   rcases hd:AL (s.drop pos) with ⟨c,m⟩
   have hr:=rune_le hp hd.symm
   dsimp only
   by_cases hc:p c=true
   .rw [if_pos hc,EU (p:=λd=> !(p d.1)) (by rw [hd];simp [hc]),if_pos AC];rfl
   .rw [if_neg hc,idx_eq p s f (pos+m) hr.1 AC]
    have e:=CA (p:=λd=> !(p d.1)) (Tj hp) (by rw [hd];simpa using hc)
    rw [hd,List.drop_drop] at e
    dsimp only at e
    rw [e]
    by_cases U:Bs (λd=> !(p d.1)) (s.drop (pos+m))<s.length - (pos+m)
    .rw [if_pos U,if_pos AC];congr 1;omega
    .rw [if_neg U,if_neg AC]
  .rw [if_neg hp,if_neg AC]
section
variable {st:St} {R:AA->St->Prop}
def se:St:=⟨λ_=>none,λ_=>none⟩
theorem ar {g:FuncId} {p:Nat->Bool} (hg:∀c:Nat,c<=1114111->PC g [.int .i32 (c:Int)] se λr _=>r=.ret (.bool (p c))) (h:R (.ret (.int .i64 (Yu p s))) st):PC 56 [.str s,.func g [] []] st R:=by
 refine C3 ⟨_,Tryz.func56,Do,Do⟩ _ (λI w cargs hs hc=>?_) h
 simp only [Aj,AK] at hc
 obtain ⟨c1,r1,rfl,⟨rfl,hl⟩,c2,r2,rfl,⟨az,cs,rfl,rfl,rfl⟩,rfl⟩:=hc
 obtain ⟨fn,p1,p2,p3⟩:=(hg 0 Do).b
 have eg:∀args w,(callFunc g args).run Tryz.prog w=.ok (.enter g args) w:=λargs w=>by
  have hb:fn.body.isNone=false:=by cases hb:fn.body<;>simp_all
  simp only [callFunc,Sem.run_bind,Result.andThen_ok,run_program,p1]
  rw [p3]
  simp [hb]
 have hp:PredGrows Tryz.prog g #[] p w:=λW x hx hb=>by
  obtain ⟨_,hW⟩:=hs.below hb
  have hW0:Ct I se W:=⟨hW.cell,hW.shape,λb cs e=>(by cases e),λb e=>absurd rfl e,λb n e=>(by cases e),hW.SJ⟩
  refine ((hg x hx).a I W [.int .i32 x] hW0 (by simp only [Aj,AK];exact ⟨_,_,rfl,rfl,rfl⟩)).mono ?_
  rintro e w' ⟨I',st',r,k1,k2,U,rfl⟩
  refine ⟨?_,⟨k1.os,k1.tape,k1.output,k1.size,λk hk=>k1.Ld k hk rfl rfl⟩⟩
  cases e with
  |returned c=>
   have U:AK I' (.bool (p x)) c:=U
   simp only [AK] at U
   rw [U]
  |panicked _=>exact U.elim
  |outgrown=>exact U.elim
 refine (Tryz.strings_IndexFunc_grows g #[] eg p ⟨s.toArray⟩ w hp).mono λe w' ⟨he,hb⟩=>⟨⟨_,he,?_⟩,hb⟩
 simp only [AK]
 unfold Lib.idxFunc Yu
 rw [idx_eq p s _ 0 (Nat.zero_le _) (by simp [ByteArray.size]),List.drop_zero,Nat.sub_zero,Nat.zero_add]
end
end Go.Proofs.Z
namespace Go.Aw
open Go
def Qu:List UInt8:=[78,85,76,32,83,79,72,32,83,84,88,32,69,84,88,32,69,79,84,32,69,78,81,32,65,67,75,32,66,69,76,32,66,83,32,72,84,32,76,70,32,86,84,32,70,70,32,67,82,32,83,79,32,83,73,32,68,76,69,32,68,67,49,32,68,67,50,32,68,67,51,32,68,67,52,32,78,65,75,32,83,89,78,32,69,84,66,32,67,65,78,32,69,77,32,83,85,66,32,69,83,67,32,70,83,32,71,83,32,82,83,32,85,83,32,83,80,32,68,69,76]
theorem Tq:Lib.fields Qu=ES:=GE
theorem ji:∀b ∈ Qu,b.toNat<128:=by
 have h:Qu.all (λb=>decide (b.toNat<128))=true:=GE
 simp_all
theorem Sf:∀w ∈ ES,1<=w.length/\w.length<=3:=by
 have h:ES.all (λw=>decide (1<=w.length)&&decide (w.length<=3))=true:=GE
 simp_all
theorem og:ES.length=34:=H1
theorem Uy {c:Nat} (h:pos<s.length) (hd:(c,m)=AL (s.drop pos)) (k:¬BH (c:Int) base<0):IB base v (s.drop pos)=IB base (min (v*base+BH (c:Int) base) 1114112) (s.drop (pos+1)):=by
 rw [List.drop_eq_getElem_cons h] at hd |-
 by_cases hb:s[pos].toNat<128
 .rw [Fk hb] at hd
  injection hd with U h2
  subst U
  rw [IB,if_neg k]
 .have:=OO (r:=s.drop (pos+1)) hb
  rw [<-hd] at this
  exact absurd (H2 (c:=(c:Int)) (base:=base) AC) k
theorem KW {c:Nat} (h:pos<s.length) (hd:(c,m)=AL (s.drop pos)) (k:BH (c:Int) base<0):IB base v (s.drop pos)=v:=by
 rw [List.drop_eq_getElem_cons h] at hd |-
 by_cases hb:s[pos].toNat<128
 .rw [Fk hb] at hd
  injection hd with U h2
  subst U
  rw [IB,if_pos k]
 .rw [IB,if_pos (H2 AC)]
theorem NL (h:s.length<=pos):IB base v (s.drop pos)=v:=by rw [List.drop_eq_nil_iff.2 h];rfl
theorem Kw {b:Int}:BH c b<0\/BH c b<b:=by
 unfold BH
 grind
theorem Yf {b:Int} {K:Int->Prop} (h0:0<=v) (h1:v<=1114112) (hb:0<=b) (U:b<=16) (hk:¬BH c b<0) (k:K (v*b+BH c b)):∃r,r=IntKind.i64.wrap (v*b+BH c b)/\K r:=by
 have h2:0<=v*b:=Int.mul_nonneg h0 hb
 have h3:v*b<=1114112*16:=Int.mul_le_mul h1 U hb Do
 have h4:=Kw (c:=c) (b:=b)
 exact Wq AC AC k
theorem jh:Qu.length<1000:=GE
theorem jd {a b:Int} {K:Int->Prop} (k:K (min a b)):∃r,r=(if b<a then b else a)/\K r:=⟨min a b,AC,k⟩
theorem dn {i c:Nat} (h:ES[i]? =some x):Nn l (ES.drop i) i (c,n)=Nn l (ES.drop (i+1)) (i+1) (if n<x.length/\x.isPrefixOf l=true then (i,x.length) else (c,n)):=by
 rw [drop_at h,Nn]
theorem oe {c:Nat} (h:Nn l ES 0 (0,0)=(c,n)):JM l=(if c=33 then 127 else (c:Int),n):=by
 have key:∀p:Nat×Nat,p=(c,n)->((if p.1=33 then 127 else (p.1:Int),p.2):Int×Nat)=(if c=33 then 127 else (c:Int),n):=λp hp=>by simp_all
 exact key _ h
end Go.Aw
namespace Go.Proofs.Z
open Go Go.Aw
theorem Fx {b:Int} {t:Bool} (U:BD b s=n) (e2:IB b 0 s=v) (e3:decide (n≠0/\v<=1114111)=t):AA.ret (.Bz [.int .i64 (IB b 0 s),.int .i64 (BD b s:Nat),.bool (decide (BD b s≠0/\IB b 0 s<=1114111))])=AA.ret (.Bz [.int .i64 v,.int .i64 (n:Int),.bool t]):=kw
section
variable {st:St} {R:AA->St->Prop}
theorem iq {l:List (List UInt8)} (e:Lib.fields s=l) (hz:s.length<1000) (U:∀b ∈ s,b.toNat<128) (hl:∀x ∈ l,x.length<=3) (hn:l.length<=1000) (h:R (.ret (.slice 1 (strs l) .any)) st):PC 428 [.str s] st R:=by
 subst e
 exact im AC U h (λx hx=>by have:=hl x hx;unfold C9;omega) (by unfold C9;omega)
theorem oj (h:R (.ret (.slice 1 (strs ES) .any)) st):PC 428 [.str Qu] st R:=
 iq Tq jh ji (λx U=>(Sf x U).2) (Nat.le_trans (Nat.le_of_eq og) Do) h
set_option maxRecDepth 100000 in
theorem oh (hl:s.length<=100000000) (h:R (.ret (.Bz [.int .i64 (JM s).1,.int .i64 (JM s).2])) st):PC 426 [.str s] st R:=by
 refine pB Tryz.func426 ?_
 repeat' ((conv=>whnf);first|(refine BX ?_;intros)|(refine BZ ?_ ?_<;>intro _)|refine oj ?_|refine iN (λ_=>?_))
 refine TH (α:=Nat) (β:=Nat) (γ:=Nat) (λi c n=>[(8,.int .i64 (i:Int)),(2,.int .i64 (c:Int)),(3,.int .i64 (n:Int))]) (λ_ _ _=>[]) [0,6,7] [] (λ_ _ _=>st)
  (λi c n=>i<=ES.length/\n<=3/\Nn s ES 0 (0,0)=Nn s (ES.drop i) i (c,n)) (λi _ _=>ES.length - i) 0 0 0 ⟨Nat.zero_le _,Do,rfl⟩ Yl (St.le_refl _) ?_
 rintro i c n ⟨h1,h2,U⟩
 rcases hx:ES[i]? with _|x
 .have hge:=List.getElem?_eq_none_iff.1 hx
  rw [List.drop_eq_nil_iff.2 hge] at U
  have e:=oe U
  repeat' ((conv=>whnf);first|(refine BX ?_;intros)|(refine BZ ?_ ?_<;>intro _)|fail)
  all_goals first
   |exact fin h (by rw [e,if_pos AC])
   |exact fin h (by rw [e,if_neg AC])
 .have hlt:=(List.getElem?_eq_some_iff.1 hx).1
  have hm:=Sf x (List.mem_of_getElem? hx)
  rw [dn hx] at U
  have hx':ES[((i:Int)).toNat]? =some x:=hx
  repeat' ((conv=>whnf);first|(refine BX ?_;intros)|(refine BZ ?_ ?_<;>intro _)|refine ZQ hx' AC ?_|refine Ip ?_)
  .rw [if_pos ⟨AC,AC⟩] at U
   conv=>whnf
   exact ⟨(i+1,i,x.length),⟨AC,kw,U⟩,AC,Yl,St.le_refl _⟩
  .have hp:x.isPrefixOf s=false:=FS
   rw [if_neg (λy=>by simp_all)] at U
   conv=>whnf
   exact ⟨(i+1,c,n),⟨AC,AC,U⟩,AC,Yl,St.le_refl _⟩
  .rw [if_neg (λy=>by omega)] at U
   conv=>whnf
   exact ⟨(i+1,c,n),⟨AC,AC,U⟩,AC,Yl,St.le_refl _⟩
theorem VR {b:Int} (hl:s.length<=100000000) (hb:b=8\/b=10\/b=16) (h:R (.ret (.Bz [.int .i64 (IB b 0 s),.int .i64 (BD b s:Nat),.bool (decide (BD b s≠0/\IB b 0 s<=1114111))])) st):PC 427 [.str s,.int .i64 b] st R:=by
 refine pB Tryz.func427 ?_
 repeat' ((conv=>whnf);first|(refine BX ?_;intros)|(refine BZ ?_ ?_<;>intro _)|fail)
 refine YJ (α:=Nat) (β:=Int) (λpos v=>[(4,.int .i64 v),(5,.int .i64 (pos:Int))]) (λpos _=>[(0,[.Oz s pos])]) [0,1,11] [] (λ_ _=>st)
  (λpos v=>pos<=s.length/\0<=v/\v<=1114112/\BD b s=pos+BD b (s.drop pos)/\IB b 0 s=IB b v (s.drop pos)) (λpos _=>s.length - pos) 0 0 ⟨Nat.zero_le _,Do,Do,GT,rfl⟩ Yl (St.le_refl _) ?_
 rintro pos v ⟨h1,h2,h3,h4,h5⟩
 rcases hb with rfl|rfl|rfl
 .skip
  have hdl:=λc=>Kw (c:=c) (b:=8)
  repeat' ((conv=>whnf);first|(refine BX ?_;intros)|(refine BZ ?_ ?_<;>intro _)|refine Mb ?_|refine jd ?_|refine Yf h2 h3 Do Do ‹_› ?_)
  all_goals first
   |(rename_i U c m hd hk _ _
     have e1:=HC U hd hk
     have e2:=KW (v:=v) U hd hk
     exact fin h (Fx AC (h5.trans e2) (by first|exact decide_eq_true ⟨AC,AC⟩|exact decide_eq_false AC)))
   |(rename_i U c m hd hk _
     have e1:=HC U hd hk
     have e2:=KW (v:=v) U hd hk
     exact fin h (Fx AC (h5.trans e2) (by first|exact decide_eq_true ⟨AC,AC⟩|exact decide_eq_false AC)))
   |(have e1:=KK (base:=8) (s:=s) (pos:=pos) AC
     have e2:=NL (base:=8) (v:=v) (s:=s) (pos:=pos) AC
     exact fin h (Fx AC (h5.trans e2) (by first|exact decide_eq_true ⟨AC,AC⟩|exact decide_eq_false AC)))
   |(rename_i U c m hd hk
     obtain ⟨e1,e2⟩:=MK U hd hk
     have e3:=Uy (v:=v) U hd hk
     have e4:=hdl (c:Int)
     subst e1
     conv=>whnf
     exact ⟨(pos+1,min (v*8+BH (c:Int) 8) 1114112),⟨bl,bl,bl,bl,h5.trans e3⟩,bl,Yl,St.le_refl _⟩)
 .skip
  have hdl:=λc=>Kw (c:=c) (b:=10)
  repeat' ((conv=>whnf);first|(refine BX ?_;intros)|(refine BZ ?_ ?_<;>intro _)|refine Mb ?_|refine jd ?_|refine Yf h2 h3 Do Do ‹_› ?_)
  all_goals first
   |(rename_i U c m hd hk _ _
     have e1:=HC U hd hk
     have e2:=KW (v:=v) U hd hk
     exact fin h (Fx AC (h5.trans e2) (by first|exact decide_eq_true ⟨AC,AC⟩|exact decide_eq_false AC)))
   |(rename_i U c m hd hk _
     have e1:=HC U hd hk
     have e2:=KW (v:=v) U hd hk
     exact fin h (Fx AC (h5.trans e2) (by first|exact decide_eq_true ⟨AC,AC⟩|exact decide_eq_false AC)))
   |(have e1:=KK (base:=10) (s:=s) (pos:=pos) AC
     have e2:=NL (base:=10) (v:=v) (s:=s) (pos:=pos) AC
     exact fin h (Fx AC (h5.trans e2) (by first|exact decide_eq_true ⟨AC,AC⟩|exact decide_eq_false AC)))
   |(rename_i U c m hd hk
     obtain ⟨e1,e2⟩:=MK U hd hk
     have e3:=Uy (v:=v) U hd hk
     have e4:=hdl (c:Int)
     subst e1
     conv=>whnf
     exact ⟨(pos+1,min (v*10+BH (c:Int) 10) 1114112),⟨bl,bl,bl,bl,h5.trans e3⟩,bl,Yl,St.le_refl _⟩)
 .skip
  have hdl:=λc=>Kw (c:=c) (b:=16)
  repeat' ((conv=>whnf);first|(refine BX ?_;intros)|(refine BZ ?_ ?_<;>intro _)|refine Mb ?_|refine jd ?_|refine Yf h2 h3 Do Do ‹_› ?_)
  all_goals first
   |(rename_i U c m hd hk _ _
     have e1:=HC U hd hk
     have e2:=KW (v:=v) U hd hk
     exact fin h (Fx AC (h5.trans e2) (by first|exact decide_eq_true ⟨AC,AC⟩|exact decide_eq_false AC)))
   |(rename_i U c m hd hk _
     have e1:=HC U hd hk
     have e2:=KW (v:=v) U hd hk
     exact fin h (Fx AC (h5.trans e2) (by first|exact decide_eq_true ⟨AC,AC⟩|exact decide_eq_false AC)))
   |(have e1:=KK (base:=16) (s:=s) (pos:=pos) AC
     have e2:=NL (base:=16) (v:=v) (s:=s) (pos:=pos) AC
     exact fin h (Fx AC (h5.trans e2) (by first|exact decide_eq_true ⟨AC,AC⟩|exact decide_eq_false AC)))
   |(rename_i U c m hd hk
     obtain ⟨e1,e2⟩:=MK U hd hk
     have e3:=Uy (v:=v) U hd hk
     have e4:=hdl (c:Int)
     subst e1
     conv=>whnf
     exact ⟨(pos+1,min (v*16+BH (c:Int) 16) 1114112),⟨bl,bl,bl,bl,h5.trans e3⟩,bl,Yl,St.le_refl _⟩)
end
end Go.Proofs.Z
namespace Go.Aw
open Go
theorem dv {b:Int} (h:JN b l=some (v,n)):IB b 0 l=v/\BD b l=n/\n≠0/\v<=1114111:=by
 unfold JN at h
 split at h
 .cases h
 .injection h with h;injection h with U h2
  exact ⟨U,h2,AC,AC⟩
theorem du {b:Int} (h:JN b l=none):decide (BD b l≠0/\IB b 0 l<=1114111)=false:=by
 unfold JN at h
 split at h
 .exact decide_eq_false AC
 .cases h
theorem HN {r r':AA} {st:St} (es:st'=st) (h:R r st) (e:r=r'):∃r2 U,(r2=r'\/r2=r'.wk)/\St.le U st'/\R r2 U:=by subst es;exact ⟨r,st',.inl e,St.le_refl _,h⟩
theorem St.Kf (st:St) (b:Nat) (cs cs':List V):(st.Aa b cs).Aa b cs'=st.Aa b cs':=by
 simp only [St.Aa,St.mk.injEq,and_true]
 funext x
 split<;>rfl
end Go.Aw
namespace Go.Proofs.Z
open Go Go.Aw
theorem Sr {q:Nat} (e:i=(q:Int)):[V.str s,.int .i64 i,.bool tx,.slice 1 (ints o) w1,.slice 2 (l6 g) w2]=qC s q tx o w1 g w2:=by subst e;rfl
section
variable {st:St} {R:AA->St->Prop}
theorem jw {b:Int} (e:i.toNat=m) (hn:JN b (s.drop m)=some (v,n)) (hl:s.length<=100000000) (hb:b=8\/b=10\/b=16) (h:R (.ret (.Bz [.int .i64 v,.int .i64 n,.bool true])) st):PC 427 [.str (s.drop i.toNat),.int .i64 b] st R:=by
 rw [e]
 obtain ⟨U,e2,e3,e4⟩:=dv hn
 exact VR M2 hb (by rw [U,e2,decide_eq_true ⟨e3,e4⟩];exact h)
theorem jx {b:Int} (e:i.toNat=m) (hn:JN b (s.drop m)=none) (U:s.length<=100000000) (hb:b=8\/b=10\/b=16) (h:R (.ret (.Bz [.int .i64 (IB b 0 (s.drop m)),.int .i64 (BD b (s.drop m):Nat),.bool false])) st):PC 427 [.str (s.drop i.toNat),.int .i64 b] st R:=by
 rw [e]
 exact VR M2 hb (by rw [du hn];exact h)
theorem PM {frm:Int} (hl:s.length<=100000000) (hp:p+k<=s.length) (U:base=8\/base=10\/base=16) (hb:st.box b=some (qC s p tx o w1 g w2))
 (h:∀v n,JN base (s.drop (p+k))=some (v,n)->R (.ret (.int .i64 v)) (st.Aa b (qC s (p+k+n) tx o w1 g w2))) (h0:JN base (s.drop (p+k))=none->R (.B0 (Jl frm 51)) st):
 PC 425 [.ptr b 0,.int .i64 frm,.int .i64 k,.int .i64 base] st R:=by
 refine pB Tryz.func425 ?_
 rcases hn:JN base (s.drop (p+k)) with _|⟨v,n⟩
 .have h0:=h0 hn
  repeat' ((conv=>whnf);first|exact DC|(refine BX ?_;intros)|(refine DD ?_ ?_ ?_;rotate_left)|(refine BZ ?_ ?_<;>intro _)|refine Am hb ?_|refine jx (m:=p+k) AC hn hl U ?_|refine F7 ?_|with_reducible refine WF ?_)
  all_goals exact fin h0 rfl
 .have h:=h v n hn
  have hle:=OZ hn
  rw [List.length_drop] at hle
  dsimp only at hle
  repeat' ((conv=>whnf);first|exact DC|(refine BX ?_;intros)|(refine DD ?_ ?_ ?_;rotate_left)|(refine BZ ?_ ?_<;>intro _)|refine Am hb ?_|refine jw (m:=p+k) AC hn hl U ?_|refine F7 ?_|with_reducible refine WF ?_)
  exact HN (congrArg (st.Aa b) (Sr AC)) h rfl
theorem al:EM (s.drop p)=if AY (s.drop p)=92/\BW (λc=>AF c==1) (s.drop (p+1))≠0/\AY (s.drop (p+1+BW (λc=>AF c==1) (s.drop (p+1))))=92 then BW (λc=>AF c==1) (s.drop (p+1))+2 else 0:=by
 have U:(s.drop p).drop 1=s.drop (p+1):=List.drop_drop
 unfold EM;rw [U,List.drop_drop,Nat.add_assoc]
theorem KM {q:Nat} (hl:s.length<=100000000) (hq:q<=s.length) (U:BW (λc=>AF c==1) (s.drop q)=k) (e:i=(q:Int)) (h:R (.ret (.int .i64 (q+k:Nat))) st):PC 129 [.str s,.int .i64 i,.int .i64 1] st R:=by
 subst e;exact qB AC (by rw [O6 AC AC,show (q:Int).toNat=q by omega,U];exact h)
theorem rC (U:s.length<=100000000) (hp:p<=s.length) (hb:st.box b=some (qC s p tx o w1 g w2)) (hg:tx=false\/EM (s.drop p)=0) (h:R (.ret (.bool false)) st):PC 409 [.ptr b 0] st R:=by
 refine pB Tryz.func409 ?_
 have hby:=JT (s.drop p)
 cases tx with
 |false=>
  repeat' ((conv=>whnf);first|exact DC|(refine BX ?_;intros)|(refine DD ?_ ?_ ?_;rotate_left)|(refine BZ ?_ ?_<;>intro _)|refine Am hb ?_|refine EL (k:=0) U hp Do hb ?_|with_reducible refine WF ?_)
  all_goals exact fin h rfl
 |true=>
  have hg:EM (s.drop p)=0:=hg.resolve_left Do
  by_cases h1:AY (s.drop p)=92
  .have hp1:p<s.length:=Ch (k:=p) AC
   have hr:=FA (λc=>AF c==1) (s.drop (p+1))
   have hgn:=al (s:=s) (p:=p)
   rw [List.length_drop] at hr
   generalize hk:BW (λc=>AF c==1) (s.drop (p+1))=k at hr hgn
   have hno:k≠0->¬AY (s.drop (p+1+k))=92:=λe1 e2=>by rw [if_pos ⟨h1,e1,e2⟩] at hgn;omega
   have hb0:KZ (s.drop p)=92:=AC
   by_cases hlt:p+1+k<s.length
   .obtain ⟨e,he⟩:∃e,s[p+1+k]? =some e:=⟨s[p+1+k],List.getElem?_eq_getElem hlt⟩
    have he':s[((p+1+k:Nat):Int).toNat]? =some e:=he
    have hv:=Ec he
    repeat' ((conv=>whnf);first|exact DC|(refine BX ?_;intros)|(refine DD ?_ ?_ ?_;rotate_left)|(refine BZ ?_ ?_<;>intro _)|refine Am hb ?_|refine EL (k:=0) U hp Do hb ?_|refine KM (q:=p+1) U AC hk AC ?_|with_reducible refine WF ?_)
    all_goals exact fin h rfl
   .skip
    repeat' ((conv=>whnf);first|exact DC|(refine BX ?_;intros)|(refine DD ?_ ?_ ?_;rotate_left)|(refine BZ ?_ ?_<;>intro _)|refine Am hb ?_|refine EL (k:=0) U hp Do hb ?_|refine KM (q:=p+1) U AC hk AC ?_|with_reducible refine WF ?_)
    all_goals exact fin h rfl
  .have hb0:¬KZ (s.drop p)=92:=AC
   repeat' ((conv=>whnf);first|exact DC|(refine BX ?_;intros)|(refine DD ?_ ?_ ?_;rotate_left)|(refine BZ ?_ ?_<;>intro _)|refine Am hb ?_|refine EL (k:=0) U hp Do hb ?_|with_reducible refine WF ?_)
   all_goals exact fin h rfl
attribute [local irreducible] Go.Aw.Ah
theorem nB (hl:s.length<=100000000) (hb:st.box b=some (qC s p true o w1 g w2)) (hg:0<EM (s.drop p)) (hr2:BU st0 st w1 o.length w2 (2*g.length)) (hgl:g.length<=100000000)
 (h:∀w2' st',BU st0 st' w1 o.length w2' (2*(g++[(p,p+EM (s.drop p))]).length)->st'.box=st.box->R (.ret (.bool true)) (st'.Aa b (qC s (p+EM (s.drop p)) true o w1 (g++[(p,p+EM (s.drop p))]) w2'))):PC 409 [.ptr b 0] st R:=by
 have hby:=JT (s.drop p)
 have U:=al (s:=s) (p:=p)
 have hr:=FA (λc=>AF c==1) (s.drop (p+1))
 rw [List.length_drop] at hr
 generalize hk:BW (λc=>AF c==1) (s.drop (p+1))=k at hr U
 have hc:AY (s.drop p)=92/\k≠0/\AY (s.drop (p+1+k))=92:=by
  by_cases hc:AY (s.drop p)=92/\k≠0/\AY (s.drop (p+1+k))=92
  .exact hc
  .rw [if_neg hc] at U;omega
 rw [if_pos hc] at U
 obtain ⟨h1,h2,h3⟩:=hc
 have hp1:p<s.length:=Ch (k:=p) AC
 have hp2:p+1+k<s.length:=Ch (k:=p+1+k) AC
 obtain ⟨e,he⟩:∃e,s[p+1+k]? =some e:=⟨s[p+1+k],List.getElem?_eq_getElem hp2⟩
 have he':s[((p+1+k:Nat):Int).toNat]? =some e:=he
 have hv:=Ec he
 have hb0:KZ (s.drop p)=92:=AC
 have hpk:((p+1+k:Nat):Int)+1=((p+(k+2):Nat):Int):=AC
 rw [U] at h
 refine pB Tryz.func409 ?_
 repeat' ((conv=>whnf);first|refine Af [(0,true),(1,true),(2,true),(3,true),(4,true),(5,true),(6,true),(7,true),(8,true),(9,true),(10,true),(11,true),(12,true),(13,false),(14,true),(15,true),(16,false)] [] GE ?_|exact DC|(refine BX ?_;intros)|(refine DD ?_ ?_ ?_;rotate_left)|(refine BZ ?_ ?_<;>intro _)|refine Am hb ?_|refine EL (k:=0) hl AC Do hb ?_|refine KM (q:=p+1) hl AC hk AC ?_|refine dI (p:=(p,p+(k+2))) hr2 AC rfl hpk (λw2' st1 hr3 hb3=>?_)|refine Am ((congrFun hb3 b).trans hb) ?_|refine Am (St.AM _ _ _) ?_|with_reducible refine WF ?_)
 exact HN ((St.Kf _ _ _ _).trans (congrArg (st1.Aa b) (Sr AC))) (h w2' st1 hr3 hb3) rfl
end
end Go.Proofs.Z
namespace Go.Aw
open Go
theorem oJ (l:List UInt8):Hm (KZ l)=Hm (AY l):=by
 rcases JT l with ⟨U,h2⟩|⟨U,h2⟩
 .rw [U,h2];rfl
 grind
theorem oK (h:Hm c=none):c≠92/\c≠34/\c≠39:=by
 refine ⟨λe=>?_,λe=>?_,λe=>?_⟩<;>(subst e;cases h)
theorem u8_in {a:Int} (U:0<=a) (h2:a<=255):IntKind.u8.wrap a=a:=IntWalk.u8_in _ ⟨U,h2⟩
theorem hX (h:Hm (AY (l.drop 1))=some v):HK tx l=some (v,2):=by unfold HK;rw [h]
theorem gV (h:AY (l.drop 1)=38):HK true l=some (-1,2):=by
 unfold HK;rw [show Hm (AY (l.drop 1))=none by rw [h];rfl]
 simp_all
theorem gW (h:AY (l.drop 1)=94) (U:64<=AY (l.drop 2)) (h2:AY (l.drop 2)<=95):HK tx l=some (AY (l.drop 2) - 64,3):=by
 unfold HK;rw [show Hm (AY (l.drop 1))=none by rw [h];rfl]
 simp_all
theorem hH (h:AY (l.drop 1)=111):HK tx l=(JN 8 (l.drop 2)).map λp=>(p.1,2+p.2):=by
 unfold HK;rw [show Hm (AY (l.drop 1))=none by rw [h];rfl]
 simp_all
theorem gY (h:AY (l.drop 1)=120):HK tx l=(JN 16 (l.drop 2)).map λp=>(p.1,2+p.2):=by
 unfold HK;rw [show Hm (AY (l.drop 1))=none by rw [h];rfl]
 simp_all
theorem gX (h:48<=AY (l.drop 1)) (U:AY (l.drop 1)<=57):HK tx l=(JN 10 (l.drop 1)).map λp=>(p.1,1+p.2):=by
 have hs:Hm (AY (l.drop 1))=none:=by
  unfold Hm
  (repeat' split)<;>first|rfl|(exfalso;omega)
 unfold HK;grind
theorem gZ (h:Hm (AY (l.drop 1))=none) (U:¬(AY (l.drop 1)=38/\tx=true)) (h2:¬(AY (l.drop 1)=94/\64<=AY (l.drop 2)/\AY (l.drop 2)<=95)) (h3:AY (l.drop 1)≠111) (h4:AY (l.drop 1)≠120) (h5:¬(48<=AY (l.drop 1)/\AY (l.drop 1)<=57)):
 HK tx l=if 0<(JM (l.drop 1)).2 then some ((JM (l.drop 1)).1,1+(JM (l.drop 1)).2) else none:=by
 unfold HK;grind
end Go.Aw
namespace Go.Proofs.Z
open Go Go.Aw
section
variable {st:St} {R:AA->St->Prop}
theorem oi (e:i.toNat=n) (U:s.length<=100000000) (h:R (.ret (.Bz [.int .i64 (JM (s.drop n)).1,.int .i64 (JM (s.drop n)).2])) st):PC 426 [.str (s.drop i.toNat)] st R:=by
 rw [e];exact oh (by grind) h
theorem U6 (hl:s.length<=100000000) (hp:p<s.length) (hb:st.box b=some (qC s p tx o w1 g w2))
 (h:∀v n,HK tx (s.drop p)=some (v,n)->R (.ret (.int .i64 v)) (st.Aa b (qC s (p+n) tx o w1 g w2))) (h0:HK tx (s.drop p)=none->∀q,R (.B0 (Jl p 51)) (st.Aa b (qC s q tx o w1 g w2))):
 PC 410 [.ptr b 0] st R:=by
 have d1:(s.drop p).drop 1=s.drop (p+1):=List.drop_drop
 have d2:(s.drop p).drop 2=s.drop (p+1+1):=List.drop_drop
 refine A5 Ae [] Tryz.func410 rfl Do rfl ?_
 refine Ak (An Ae ?_)
 repeat' ((conv=>whnf);first|exact DC|(refine BX ?_;intros)|(refine DD ?_ ?_ ?_;rotate_left)|(refine BZ ?_ ?_<;>intro _)|with_reducible refine WF ?_)
 refine Ak (An Ae ?_)
 repeat' ((conv=>whnf);first|exact DC|(refine BX ?_;intros)|(refine DD ?_ ?_ ?_;rotate_left)|(refine BZ ?_ ?_<;>intro _)|refine Am hb ?_|with_reducible refine WF ?_)
 refine Ak (An Ae ?_)
 repeat' ((conv=>whnf);first|exact DC|(refine BX ?_;intros)|(refine DD ?_ ?_ ?_;rotate_left)|(refine BZ ?_ ?_<;>intro _)|refine Am hb ?_|with_reducible refine WF ?_)
 refine ZG (st':=st.Aa b (qC s (p+1) tx o w1 g w2)) rfl ?_
 have endq:∀{i:Int} {q:Nat},i=(q:Int)->(st.Aa b (qC s (p+1) tx o w1 g w2)).Aa b [V.str s,.int .i64 i,.bool tx,.slice 1 (ints o) w1,.slice 2 (l6 g) w2]=st.Aa b (qC s q tx o w1 g w2):=λe=>by rw [St.Kf,Sr e]
 have endp:∀{q:Nat},(st.Aa b (qC s (p+1) tx o w1 g w2)).Aa b (qC s q tx o w1 g w2)=st.Aa b (qC s q tx o w1 g w2):=St.Kf _ _ _ _
 have U:(st.Aa b (qC s (p+1) tx o w1 g w2)).box b=some (qC s (p+1) tx o w1 g w2):=St.AM _ _ _
 have h0':=λe=>h0 e (p+1)
 generalize hst:st.Aa b (qC s (p+1) tx o w1 g w2)=st1 at U endq endp h0'
 have hx1:=JT (s.drop (p+1))
 have hx2:=JT (s.drop (p+1+1))
 have hxl:=iz (s.drop (p+1))
 have hby0:∀{R:AA->St->Prop},R (.ret (.int .u8 (KZ (s.drop (p+1))))) st1->PC 375 [.ptr b 0,.int .i64 0] st1 R:=λh=>EL (k:=0) hl AC Do U h
 have hby1:∀{R:AA->St->Prop},R (.ret (.int .u8 (KZ (s.drop (p+1+1))))) st1->PC 375 [.ptr b 0,.int .i64 1] st1 R:=λh=>EL (k:=1) hl AC Do U h
 have l1:=λh=>Ch (l:=s) (k:=p+1) h
 have l2:=λh=>Ch (l:=s) (k:=p+1+1) h
 cases hsg:Hm (AY (s.drop (p+1))) with
 |some v=>
  have hv:=WR hsg
  have h1:=h v 2 (hX kw)
  have hsn:∀{R:AA->St->Prop},R (.ret (sC (some v))) st1->PC 424 [.int .u8 (KZ (s.drop (p+1)))] st1 R:=λh=>kE AC AC (by grind)
  refine An Ae ?_
  repeat' ((conv=>whnf);first|exact DC|(refine BX ?_;intros)|(refine DD ?_ ?_ ?_;rotate_left)|(refine BZ ?_ ?_<;>intro _)|refine hby0 ?_|refine hsn ?_|refine Am U ?_|with_reducible refine WF ?_)
  exact HN (endq AC) h1 rfl
 |none=>
  have hne:=oK hsg
  have hsn:∀{R:AA->St->Prop},R (.ret (sC none)) st1->PC 424 [.int .u8 (KZ (s.drop (p+1)))] st1 R:=λh=>kE AC AC (by rw [oJ,hsg];exact h)
  refine Ak (An Ae ?_)
  repeat' ((conv=>whnf);first|exact DC|(refine BX ?_;intros)|(refine DD ?_ ?_ ?_;rotate_left)|(refine BZ ?_ ?_<;>intro _)|refine hby0 ?_|with_reducible refine WF ?_)
  refine Ak (An Ae ?_)
  repeat' ((conv=>whnf);first|exact DC|(refine BX ?_;intros)|(refine DD ?_ ?_ ?_;rotate_left)|(refine BZ ?_ ?_<;>intro _)|refine hsn ?_|with_reducible refine WF ?_)
  by_cases c1:AY (s.drop (p+1))=38/\tx=true
  .obtain ⟨c1,rfl⟩:=c1
   have h1:=h (-1) 2 (gV kw)
   refine An Ae ?_
   repeat' ((conv=>whnf);first|exact DC|(refine BX ?_;intros)|(refine DD ?_ ?_ ?_;rotate_left)|(refine BZ ?_ ?_<;>intro _)|refine Am U ?_|with_reducible refine WF ?_)
   exact HN (endq AC) h1 rfl
  by_cases c2:AY (s.drop (p+1))=94/\64<=AY (s.drop (p+1+1))/\AY (s.drop (p+1+1))<=95
  .obtain ⟨c2,c3,c4⟩:=c2
   have h1:=h _ 3 (gW kw kw kw)
   rw [d2] at h1
   have hp2:=l2 AC
   obtain ⟨e,he⟩:∃e,s[p+1+1]? =some e:=⟨s[p+1+1],List.getElem?_eq_getElem hp2⟩
   have he':s[(((p+1:Nat):Int)+2 - 1).toNat]? =some e:=by rw [show (((p+1:Nat):Int)+2 - 1).toNat=p+1+1 by omega];exact he
   have hv:=Ec he
   have hew:∀{K:Int->Prop},K (AY (s.drop (p+1+1)) - 64)->∃r,r=IntKind.u8.wrap ((e.toNat:Nat) - 64:Int)/\K r:=λk=>⟨_,by rw [hv];exact (u8_in AC AC).symm,k⟩
   refine An Ae ?_
   repeat' ((conv=>whnf);first|exact DC|(refine BX ?_;intros)|(refine DD ?_ ?_ ?_;rotate_left)|(refine BZ ?_ ?_<;>intro _)|refine hby1 ?_|refine Am U ?_|refine Am (St.AM _ _ _) ?_|refine hew ?_|with_reducible refine WF ?_)
   exact HN (endq AC) h1 rfl
  by_cases c3:AY (s.drop (p+1))=111
  .have he:=hH (tx:=tx) (l:=s.drop p) kw
   rw [d2] at he
   have hp1:=l1 AC
   refine An Ae ?_
   repeat' ((conv=>whnf);first|exact DC|(refine BX ?_;intros)|(refine DD ?_ ?_ ?_;rotate_left)|(refine BZ ?_ ?_<;>intro _)|refine Am U ?_|refine PM (k:=1) hl AC (.inl rfl) U (λv n hv=>?_) (λhv=>?_)|with_reducible refine WF ?_)
   all_goals try rw [hv] at he
   .have h1:=h v (2+n) he
    exact HN (endp.trans (by grind)) h1 rfl
   .exact fin (h0' he) rfl
  by_cases c4:AY (s.drop (p+1))=120
  .have he:=gY (tx:=tx) (l:=s.drop p) kw
   rw [d2] at he
   have hp1:=l1 AC
   refine An Ae ?_
   repeat' ((conv=>whnf);first|exact DC|(refine BX ?_;intros)|(refine DD ?_ ?_ ?_;rotate_left)|(refine BZ ?_ ?_<;>intro _)|refine Am U ?_|refine PM (k:=1) hl AC (.inr (.inr rfl)) U (λv n hv=>?_) (λhv=>?_)|with_reducible refine WF ?_)
   all_goals try rw [hv] at he
   .have h1:=h v (2+n) he
    exact HN (endp.trans (by grind)) h1 rfl
   .exact fin (h0' he) rfl
  by_cases c5:48<=AY (s.drop (p+1))/\AY (s.drop (p+1))<=57
  .have he:=gX (tx:=tx) (l:=s.drop p) kw kw
   rw [d1] at he
   have hp1:=l1 AC
   refine An Ae ?_
   repeat' ((conv=>whnf);first|exact DC|(refine BX ?_;intros)|(refine DD ?_ ?_ ?_;rotate_left)|(refine BZ ?_ ?_<;>intro _)|refine Am U ?_|refine PM (k:=0) hl AC (.inr (.inl rfl)) U (λv n hv=>?_) (λhv=>?_)|with_reducible refine WF ?_)
   all_goals try rw [show JN 10 (s.drop (p+1))=_ from hv] at he
   .have h1:=h v (1+n) he
    exact HN (endp.trans (by grind)) h1 rfl
   .exact fin (h0' he) rfl
  .have he:=gZ (tx:=tx) (l:=s.drop p) kw kw kw kw kw kw
   rw [d1] at he
   have hc1:KZ (s.drop (p+1))=38->tx=false:=λe=>by simp_all
   have hnl:=TP (s.drop (p+1)) ES 0 (0,0) (Nat.zero_le _)
   have hnn:(JM (s.drop (p+1))).2<=s.length - (p+1):=by simp only [JM];rw [List.length_drop] at hnl;omega
   have f2:¬(KZ (s.drop (p+1))=94/\64<=KZ (s.drop (p+1+1))/\KZ (s.drop (p+1+1))<=95):=λe=>c2 ⟨AC,AC,AC⟩
   have f3:¬KZ (s.drop (p+1))=111:=AC
   have f4:¬KZ (s.drop (p+1))=120:=AC
   have f5:¬(48<=KZ (s.drop (p+1))/\KZ (s.drop (p+1))<=57):=AC
   have e1:=λ(n:Nat) (hn:(JM (s.drop (p+1))).2=n) (h0:0<n)=>h _ (1+n) (by rw [he,hn,if_pos h0])
   have e2:=λ(h0:¬0<(JM (s.drop (p+1))).2)=>h0' kw
   generalize KZ (s.drop (p+1))=x1 at hby0 hc1 f2 f3 f4 f5 hx1 hsn
   generalize KZ (s.drop (p+1+1))=x2 at hby1 f2 hx2
   generalize hN:JM (s.drop (p+1))=N at e1 e2 hnn
   obtain ⟨v,n⟩:=N
   have e1:=e1 n rfl
   dsimp only at e1 e2 hnn
   have hnam:∀{i:Int} {R:AA->St->Prop},i.toNat=p+1->R (.ret (.Bz [.int .i64 v,.int .i64 (n:Int)])) st1->PC 426 [.str (s.drop i.toNat)] st1 R:=λe h=>oi e hl kw
   clear he h h0 h0' hsg hne hsn c1 c2 c3 c4 c5 hx1 hx2 hxl l1 l2 d1 d2 hnl hby0 endp hb hN
   by_cases h38:x1=38
   .have e:=hc1 h38
    subst e
    refine An Ae ?_
    repeat' ((conv=>whnf);first|exact DC|(refine BX ?_;intros)|(refine DD ?_ ?_ ?_;rotate_left)|(refine BZ ?_ ?_<;>intro _)|refine hby1 ?_|refine Am U ?_|refine hnam AC ?_|refine F7 ?_|with_reducible refine WF ?_)
    all_goals first
     |exact HN (endq AC) (e1 AC) rfl
     |exact fin (e2 AC) rfl
   .clear hc1
    refine An Ae ?_
    repeat' ((conv=>whnf);first|exact DC|(refine BX ?_;intros)|(refine DD ?_ ?_ ?_;rotate_left)|(refine BZ ?_ ?_<;>intro _)|refine hby1 ?_|refine Am U ?_|refine hnam AC ?_|refine F7 ?_|with_reducible refine WF ?_)
    all_goals first
     |exact HN (endq AC) (e1 AC) rfl
     |exact fin (e2 AC) rfl
end
end Go.Proofs.Z
namespace Go.Aw
open Go
theorem jA (h:0<EM l):Jg true l=.inr (-1,EM l):=by
 cases l with
 |nil=>exact absurd h Do
 |cons a r=>
  have U:AY (a::r)=92:=by
   by_cases U:AY (a::r)=92
   .exact U
   .unfold EM at h;simp_all
  unfold Jg
  simp_all
theorem jz (U:AY l=92) (h:tx=false\/EM l=0):Jg tx l=match HK tx l with|none=>.inl 51|some p=>.inr p:=by
 cases l with
 |nil=>exact absurd U Do
 |cons a r=>
  unfold Jg
  grind
theorem dw (U:l≠[]) (h1:AY l≠92):Jg tx l=if LZ (AL l) then .inl 50 else .inr (((AL l).1:Nat),(AL l).2):=by
 cases l with
 |nil=>rfl
 |cons a r=>
  unfold Jg
  simp_all
theorem X6 (h:AF c≠0):c<=1114111:=by
 by_cases hc:c<=1114111
 .exact hc
 .refine absurd ?_ h
  unfold AF L4
  omega
theorem ZR {c:Nat}:LZ (c,m)=true↔AF (c:Int)=0\/(AF (c:Int)=1/\¬c=32)\/(c=65533/\m=1):=by
 simp only [LZ,Bool.or_eq_true,Bool.and_eq_true,Bool.not_eq_true',beq_iff_eq,beq_eq_false_iff_ne,ne_eq]
 omega
def TZ (o:List Int) (v:Int):List Int:=if v= -1 then o else o++[v]
end Go.Aw
namespace Go.Proofs.Z
open Go Go.Aw
def QB (st0 st:St) (b:Nat) (s:List UInt8) (tx:Bool):Prop:=∃q o w1 g w2,st.box b=some (qC s q tx o w1 g w2)/\BU st0 st w1 o.length w2 (2*g.length)
section
variable {st:St} {R:AA->St->Prop}
attribute [local irreducible] Go.Aw.Ah
theorem tv (hl:s.length<=100000000) (hp:p<=s.length) (hb:st.box b=some (qC s p tx o w1 g w2)) (hr:BU st0 st w1 o.length w2 (2*g.length)) (hgl:g.length<=100000000)
 (h0:(tx=false\/EM (s.drop p)=0)->R (.ret (.bool false)) st)
 (h:tx=true->0<EM (s.drop p)->∀w2' st',BU st0 st' w1 o.length w2' (2*(g++[(p,p+EM (s.drop p))]).length)->st'.box=st.box->R (.ret (.bool true)) (st'.Aa b (qC s (p+EM (s.drop p)) true o w1 (g++[(p,p+EM (s.drop p))]) w2'))):PC 409 [.ptr b 0] st R:=by
 by_cases hg:tx=false\/EM (s.drop p)=0
 .exact rC hl hp hb hg (h0 hg)
 .have ht:tx=true:=by cases tx;· simp_all
                      rfl
  subst ht
  have U:0<EM (s.drop p):=by
   rcases Nat.eq_zero_or_pos (EM (s.drop p)) with e|e
   .omega
   .exact e
  exact nB hl hb U hr hgl (h rfl U)
theorem qo (hl:s.length<=100000000) (hp:p<=s.length) (hb0:st0.box b=none) (hb:st.box b=some (qC s p tx o w1 g w2)) (hr:BU st0 st w1 o.length w2 (2*g.length))
 (ho:o.length<=100000000) (hgl:g.length<=100000000)
 (h0:∀e,Jg tx (s.drop p)=.inl e->∀st',QB st0 st' b s tx->R (.B0 (Jl p e)) st')
 (h:∀v n,Jg tx (s.drop p)=.inr (v,n)->∀w1' w2' st' g',BU st0 st' w1' (TZ o v).length w2' (2*g'.length)->st'.box b=some (qC s (p+n) tx (TZ o v) w1' g' w2')->g'=(if tx=true/\0<EM (s.drop p) then g++[(p,p+n)] else g)->R (.ret (.Bz [])) st'):
 PC 376 [.ptr b 0] st R:=by
 have hqb:QB st0 st b s tx:=⟨p,o,w1,g,w2,hb,hr⟩
 refine A5 Ae [] Tryz.func376 rfl Do rfl ?_
 by_cases U:s.length<=p
 .have hd:s.drop p=[]:=List.drop_eq_nil_iff.2 AC
  have h0:=h0 50 (by rw [hd];rfl) st hqb
  refine An Ae ?_
  repeat' ((conv=>whnf);first|exact DC|(refine BX ?_;intros)|(refine DD ?_ ?_ ?_;rotate_left)|(refine BZ ?_ ?_<;>intro _)|refine Am hb ?_|refine F7 ?_|with_reducible refine WF ?_)
  exact fin h0 rfl
 have U:p<s.length:=AC
 obtain ⟨e,he⟩:∃e,s[p]? =some e:=⟨s[p],List.getElem?_eq_getElem U⟩
 have he':s[(p:Int).toNat]? =some e:=he
 have hv:=Ec he
 refine Ak (An Ae ?_)
 repeat' ((conv=>whnf);first|exact DC|(refine BX ?_;intros)|(refine DD ?_ ?_ ?_;rotate_left)|(refine BZ ?_ ?_<;>intro _)|refine Am hb ?_|refine F7 ?_|with_reducible refine WF ?_)
 refine Ak (An Ae ?_)
 repeat' ((conv=>whnf);first|exact DC|(refine BX ?_;intros)|(refine DD ?_ ?_ ?_;rotate_left)|(refine BZ ?_ ?_<;>intro _)|refine tv hl hp hb hr hgl (λhg=>?_) (λht hg w2' st1 hr1 hb1=>?_)|with_reducible refine WF ?_)
 .by_cases h92:AY (s.drop p)=92
  .have h1:=jz h92 hg
   have hng:¬(tx=true/\0<EM (s.drop p)):=λx=>by simp_all
   rcases hesc:HK tx (s.drop p) with _|⟨v,n⟩
   .rw [hesc] at h1
    have h0:=h0 51 h1
    have hE:∀{R:AA->St->Prop},(∀q,R (.B0 (Jl p 51)) (st.Aa b (qC s q tx o w1 g w2)))->PC 410 [.ptr b 0] st R:=λh=>U6 hl U hb (λv n x=>by simp_all) (λ_=>h)
    refine An Ae ?_
    repeat' ((conv=>whnf);first|exact DC|(refine BX ?_;intros)|(refine DD ?_ ?_ ?_;rotate_left)|(refine BZ ?_ ?_<;>intro _)|refine Am hb ?_|refine hE (λq=>?_)|with_reducible refine WF ?_)
    exact fin (h0 _ ⟨_,_,_,_,_,St.AM _ _ _,hr.set hb0 _⟩) rfl
   .rw [hesc] at h1
    have hn:=af hesc
    rw [List.length_drop] at hn
    dsimp only at hn
    have h:=h v n h1
    rw [if_neg hng] at h
    have R6:=St.AM st b (qC s (p+n) tx o w1 g w2)
    have hr2:=hr.set hb0 (qC s (p+n) tx o w1 g w2)
    have hE:∀{R:AA->St->Prop},R (.ret (.int .i64 v)) (st.Aa b (qC s (p+n) tx o w1 g w2))->PC 410 [.ptr b 0] st R:=λh=>U6 hl U hb (λv' n' x=>by simp_all) (λx=>by simp_all)
    generalize st.Aa b (qC s (p+n) tx o w1 g w2)=st2 at R6 hr2 hE
    unfold TZ at h
    by_cases hv1:v= -1
    .rw [if_pos hv1] at h
     refine An Ae ?_
     repeat' ((conv=>whnf);first|exact DC|(refine BX ?_;intros)|(refine DD ?_ ?_ ?_;rotate_left)|(refine BZ ?_ ?_<;>intro _)|refine Am hb ?_|refine hE ?_|with_reducible refine WF ?_)
     all_goals first
      |exact fin (h w1 w2 st2 g hr2 R6 rfl) rfl
      |(exfalso;omega)
    .rw [if_neg hv1] at h
     refine An Ae ?_
     repeat' ((conv=>whnf);first|exact DC|(refine BX ?_;intros)|(refine DD ?_ ?_ ?_;rotate_left)|(refine BZ ?_ ?_<;>intro _)|refine Am hb ?_|refine Am R6 ?_|refine hE ?_|refine V7 hr2 AC (λw1' st3 hr3 hb3=>?_)|refine Am ((congrFun hb3 b).trans R6) ?_|with_reducible refine WF ?_)
     exact fin (h w1' w2 _ g (hr3.set hb0 _) (St.AM _ _ _) rfl) rfl
  .have h1:=dw (tx:=tx) (Tj U) h92
   have hng:¬(tx=true/\0<EM (s.drop p)):=λx=>by simp_all
   rcases hd:AL (s.drop p) with ⟨c,m⟩
   have hrn:=rune_le U hd.symm
   have hx:Mu s p=((c:Int),(m:Int)):=by rw [Mv AC AC,ON U hd.symm]
   rw [hd] at h1
   refine Ak (An Ae ?_)
   repeat' ((conv=>whnf);first|exact DC|(refine BX ?_;intros)|(refine DD ?_ ?_ ?_;rotate_left)|(refine BZ ?_ ?_<;>intro _)|refine Am hb ?_|with_reducible refine WF ?_)
   refine Ak (An Ae ?_)
   repeat' ((conv=>whnf);first|exact DC|(refine BX ?_;intros)|(refine DD ?_ ?_ ?_;rotate_left)|(refine BZ ?_ ?_<;>intro _)|refine Am hb ?_|refine aN AC hx ?_|with_reducible refine WF ?_)
   refine Ak (An Ae ?_)
   repeat' ((conv=>whnf);first|exact DC|(refine BX ?_;intros)|(refine DD ?_ ?_ ?_;rotate_left)|(refine BZ ?_ ?_<;>intro _)|refine Ku ?_|with_reducible refine WF ?_)
   cases hbad:LZ (c,m) with
   |true=>
    rw [if_pos hbad] at h1
    have h0:=h0 50 h1 st hqb
    refine An Ae ?_
    have hbi:=ZR.1 hbad
    repeat' ((conv=>whnf);first|exact DC|(refine BX ?_;intros)|(refine DD ?_ ?_ ?_;rotate_left)|(refine BZ ?_ ?_<;>intro _)|refine Am hb ?_|refine F7 ?_|with_reducible refine WF ?_)
    all_goals first|exact fin h0 rfl|(exfalso;omega)
   |false=>
    rw [if_neg kw] at h1
    have h:=h (c:Int) m h1
    rw [if_neg hng] at h
    unfold TZ at h
    rw [if_neg AC] at h
    have hbi:¬(AF (c:Int)=0\/(AF (c:Int)=1/\¬c=32)\/(c=65533/\m=1)):=λx=>by rw [ZR.2 x] at hbad;grind
    have hcm:=X6 (c:=(c:Int)) AC
    refine An Ae ?_
    repeat' ((conv=>whnf);first|exact DC|(refine BX ?_;intros)|(refine DD ?_ ?_ ?_;rotate_left)|(refine BZ ?_ ?_<;>intro _)|refine Am hb ?_|refine F7 ?_|refine V7 hr AC (λw1' st3 hr3 hb3=>?_)|refine Am ((congrFun hb3 b).trans hb) ?_|refine Am (St.AM _ _ _) ?_|with_reducible refine WF ?_)
    all_goals exact fin (h w1' w2 _ g ((hr3.set hb0 _).set hb0 _) ((St.AM _ _ _).trans (congrArg some (Sr AC))) rfl) rfl
 .subst ht
  have h1:=jA hg
  have h:=h _ _ h1 w1 w2' (st1.Aa b (qC s (p+EM (s.drop p)) true o w1 (g++[(p,p+EM (s.drop p))]) w2')) _ (hr1.set hb0 _) (St.AM _ _ _) (if_pos ⟨rfl,hg⟩).symm
  repeat' ((conv=>whnf);first|exact DC|(refine BX ?_;intros)|(refine DD ?_ ?_ ?_;rotate_left)|(refine BZ ?_ ?_<;>intro _)|with_reducible refine WF ?_)
  exact fin h rfl
end
end Go.Proofs.Z
namespace Go.Aw
open Go
theorem ux {b:Bool} {p q:Prop} (h:b=false) (k:q):Bn b p q:=by subst h;exact Wj k
theorem uy {b:Bool} {p q:Prop} (h:b=true) (k:p):Bn b p q:=by subst h;exact Wi k
theorem eE (h:AY l=34):EW l=.inr 1:=by rw [EW,if_pos h]
theorem eD {e:Int} (h:AY l≠34) (k:Jg true l=.inl e):EW l=.inl (0,e):=by
 rw [EW,if_neg h]
 split
 .rename_i e' he;rw [k] at he;injection he with he;rw [he]
 .rename_i p hp;rw [k] at hp;cases hp
theorem lu (h:AY l≠34) (k:Jg true l=.inr (v,n)):EW l=match EW (l.drop n) with| .inl q=>.inl (q.1+n,q.2)| .inr m=>.inr (m+n):=by
 rw [EW,if_neg h]
 split
 .rename_i e' he;rw [k] at he;cases he
 .rename_i p hp;rw [k] at hp;injection hp with hp;subst hp;rfl
theorem eF (h:AY l=34):JG l=[]:=by rw [JG,if_pos h]
theorem lv (h:AY l≠34) (k:Jg true l=.inr (v,n)):JG l=if v= -1 then JG (l.drop n) else v::JG (l.drop n):=by
 rw [JG,if_neg h]
 split
 .rename_i e' he;rw [k] at he;cases he
 .rename_i p hp;rw [k] at hp;injection hp with hp;subst hp;rfl
theorem eG {q:Nat} (h:AY l=34):JH q l=[]:=by rw [JH,if_pos h]
theorem lx {q:Nat} (h:AY l≠34) (k:Jg true l=.inr (v,n)):JH q l=if 0<EM l then (q,q+n)::JH (q+n) (l.drop n) else JH (q+n) (l.drop n):=by
 rw [JH,if_neg h]
 split
 .rename_i e' he;rw [k] at he;cases he
 .rename_i p hp;rw [k] at hp;injection hp with hp;subst hp;rfl
def bY (q:Nat):Sum (Nat×Int) Nat->Sum (Nat×Int) Nat
 | .inl k=>.inl (q+k.1,k.2)
 | .inr n=>.inr (q+n)
theorem mb {q:Nat} (h:AY l≠34) (k:Jg true l=.inr (v,n)):bY q (EW l)=bY (q+n) (EW (l.drop n)):=by
 rw [lu h k]
 cases EW (l.drop n) with
 |inl k=>simp only [bY];congr 2;omega
 |inr m=>simp only [bY];congr 1;omega
structure uV where
 q:Nat
 o:List Int
 g:List (Nat×Nat)
 w1:AJ
 w2:AJ
 m:St
end Go.Aw
namespace Go.Proofs.Z
open Go Go.Aw
section
variable {st:St} {R:AA->St->Prop}
theorem dh (hl:s.length<=100000000) (hp:AY (s.drop p)=34) (hb0:st0.box b=none) (hb:st.box b=some (qC s p tx [] w1 [] w2)) (hr:BU st0 st w1 0 w2 0)
 (h0:∀k e,EW (s.drop (p+1))=.inl (k,e)->∀st',QB st0 st' b s true->R (.B0 (Jl (p+1+k:Nat) e)) st')
 (h:∀n,EW (s.drop (p+1))=.inr n->∀w1' w2' st',BU st0 st' w1' (JG (s.drop (p+1))).length w2' (2*(JH (p+1) (s.drop (p+1))).length)->st'.box b=some (qC s (p+1+n) true (JG (s.drop (p+1))) w1' (JH (p+1) (s.drop (p+1))) w2')->R (.ret (.int .i64 14)) st'):
 PC 331 [.ptr b 0] st R:=by
 have hpl:p<s.length:=Ch (k:=p) AC
 obtain ⟨e,he⟩:∃e,s[p]? =some e:=⟨s[p],List.getElem?_eq_getElem hpl⟩
 have he':s[(p:Int).toNat]? =some e:=he
 have hv:=Ec he
 have hv34:((e.toNat:Nat):Int)=34:=AC
 refine A5 Ae [] Tryz.func331 rfl Do rfl ?_
 refine Ak (An Ae ?_)
 repeat' ((conv=>whnf);first|exact DC|(refine BX ?_;intros)|(refine DD ?_ ?_ ?_;rotate_left)|(refine BZ ?_ ?_<;>intro _)|with_reducible refine WF ?_)
 refine Ak (An Ae ?_)
 repeat' ((conv=>whnf);first|exact DC|(refine BX ?_;intros)|(refine DD ?_ ?_ ?_;rotate_left)|(refine BZ ?_ ?_<;>intro _)|refine Am hb ?_|with_reducible refine WF ?_)
 refine Ak (An Ae ?_)
 repeat' ((conv=>whnf);first|exact DC|(refine BX ?_;intros)|(refine DD ?_ ?_ ?_;rotate_left)|(refine BZ ?_ ?_<;>intro _)|refine Am hb ?_|with_reducible refine WF ?_)
 refine Ak (An Ae ?_)
 repeat' ((conv=>whnf);first|exact DC|(refine BX ?_;intros)|(refine DD ?_ ?_ ?_;rotate_left)|(refine BZ ?_ ?_<;>intro _)|refine Am (St.AM _ _ _) ?_|with_reducible refine WF ?_)
 refine ZG (st':=st.Aa b (qC s (p+1) true [] w1 [] w2)) (St.Kf _ _ _ _).symm ?_
 have hb1:=St.AM st b (qC s (p+1) true [] w1 [] w2)
 have hr1:=hr.set hb0 (qC s (p+1) true [] w1 [] w2)
 generalize st.Aa b (qC s (p+1) true [] w1 [] w2)=st1 at hb1 hr1
 refine An Ae ?_
 repeat' ((conv=>whnf);first|exact DC|(refine BX ?_;intros)|(refine DD ?_ ?_ ?_;rotate_left)|(refine BZ ?_ ?_<;>intro _)|refine Am hb1 ?_|with_reducible refine WF ?_)
 refine TI (α:=uV) (λ_=>[]) [0,3] [] (λx=>x.m) (λx=>x.m.box b=some (qC s x.q true x.o x.w1 x.g x.w2)/\BU st0 x.m x.w1 x.o.length x.w2 (2*x.g.length)/\x.q<=s.length/\p+1<=x.q/\x.o.length<=x.q/\x.g.length<=x.q/\
  bY (p+1) (EW (s.drop (p+1)))=bY x.q (EW (s.drop x.q))/\JG (s.drop (p+1))=x.o++JG (s.drop x.q)/\JH (p+1) (s.drop (p+1))=x.g++JH x.q (s.drop x.q))
  (λx=>s.length - x.q) ⟨p+1,[],[],w1,w2,st1⟩ ⟨hb1,hr1,by simp only [];omega,Nat.le_refl _,GT,GT,rfl,rfl,rfl⟩ Yl (St.le_refl _) ?_
 rintro ⟨q,o,g,v1,v2,m⟩ ⟨j1,j2,j3,j4,j5,j6,U,j8,j9⟩
 dsimp only at j1 j2 j3 j4 j5 j6 U j8 j9 |-
 have hx:=JT (s.drop q)
 have hbt:∀{R:AA->St->Prop},R (.ret (.int .u8 (KZ (s.drop q)))) m->PC 375 [.ptr b 0,.int .i64 0] m R:=λh=>EL (k:=0) hl j3 Do j1 h
 by_cases hq:AY (s.drop q)=34
 .have hql:q<s.length:=Ch (k:=q) AC
  rw [eE hq] at U
  rw [eF hq,List.append_nil] at j8
  rw [eG hq,List.append_nil] at j9
  clear h0
  have hcd:(!KZ (s.drop q)==((e.toNat:Nat):Int))=false:=by rw [show KZ (s.drop q)=((e.toNat:Nat):Int) by omega];simp
  repeat' ((conv=>whnf);first|refine ux hcd ?_|exact DC|(refine BX ?_;intros)|(refine DD ?_ ?_ ?_;rotate_left)|(refine BZ ?_ ?_<;>intro _)|refine hbt ?_|refine Am j1 ?_|with_reducible refine WF ?_)
  rw [j8,j9] at h
  cases hT:EW (s.drop (p+1)) with
  |inl k=>rw [hT] at U;cases U
  |inr n=>
   rw [hT] at U
   have e7:p+1+n=q+1:=by injection U
   exact fin (h n hT v1 v2 _ (j2.set hb0 _) ((St.AM _ _ _).trans (congrArg some (Sr AC)))) rfl
 .have hne:¬KZ (s.drop q)=((e.toNat:Nat):Int):=AC
  have hcd:(!KZ (s.drop q)==((e.toNat:Nat):Int))=true:=by rw [beq_eq_false_iff_ne.2 hne];rfl
  repeat' ((conv=>whnf);first|refine uy hcd ?_|exact DC|(refine BX ?_;intros)|(refine DD ?_ ?_ ?_;rotate_left)|(refine BZ ?_ ?_<;>intro _)|refine hbt ?_|refine qo hl j3 hb0 j1 j2 AC AC (λe' hE st' hQ=>?_) (λv n hO u1 u2 st' g' hR hB hG=>?_)|with_reducible refine WF ?_)
  .rw [eD hq hE] at U
   cases hT:EW (s.drop (p+1)) with
   |inl k=>
    rw [hT] at U
    injection U with U
    injection U with e7 e8
    have:=h0 k.1 k.2 hT st' hQ
    rw [show p+1+k.1=q by simpa using e7,e8] at this
    exact fin this rfl
   |inr n=>rw [hT] at U;cases U
  .have hle:=Mz hO
   rw [List.length_drop] at hle
   dsimp only at hle
   rw [mb hq hO,List.drop_drop] at U
   rw [lv hq hO,List.drop_drop] at j8
   rw [lx hq hO,List.drop_drop] at j9
   have ho:(TZ o v).length<=o.length+1:=by unfold TZ;split<;>simp
   have hg:g'.length<=g.length+1:=by rw [hG];split<;>simp
   conv=>whnf
   refine ⟨⟨q+n,TZ o v,g',u1,u2,st'⟩,⟨hB,hR,by simp only [];omega,by simp only [];omega,by simp only [];omega,by simp only [];omega,U,?_,?_⟩,by simp only [];omega,Yl,St.le_refl _⟩
   .rw [j8]
    unfold TZ
    by_cases hv1:v= -1
    .rw [if_pos hv1,if_pos hv1]
    .rw [if_neg hv1,if_neg hv1];simp
   .rw [j9,hG]
    by_cases hg0:0<EM (s.drop q)
    .rw [if_pos hg0,if_pos ⟨rfl,hg0⟩];simp
    .rw [if_neg hg0,if_neg (λx=>hg0 x.2)]
end
section
variable {st:St} {R:AA->St->Prop}
theorem dg (hl:s.length<=100000000) (hp:AY (s.drop p)=39) (hb0:st0.box b=none) (hb:st.box b=some (qC s p tx [] w1 [] w2)) (hr:BU st0 st w1 0 w2 0)
 (h0:∀k e,NV (s.drop (p+1))=.inl (k,e)->∀st',QB st0 st' b s false->R (.B0 (Jl (p+1+k:Nat) e)) st')
 (h:∀n,NV (s.drop (p+1))=.inr n->∀o' w1' w2' st',BU st0 st' w1' (List.length o') w2' 0->st'.box b=some (qC s (p+1+n) false o' w1' [] w2')->R (.ret (.int .i64 13)) st'):
 PC 331 [.ptr b 0] st R:=by
 have hpl:p<s.length:=Ch (k:=p) AC
 obtain ⟨e,he⟩:∃e,s[p]? =some e:=⟨s[p],List.getElem?_eq_getElem hpl⟩
 have he':s[(p:Int).toNat]? =some e:=he
 have hv:=Ec he
 have hv34:((e.toNat:Nat):Int)=39:=AC
 refine A5 Ae [] Tryz.func331 rfl Do rfl ?_
 refine Ak (An Ae ?_)
 repeat' ((conv=>whnf);first|exact DC|(refine BX ?_;intros)|(refine DD ?_ ?_ ?_;rotate_left)|(refine BZ ?_ ?_<;>intro _)|with_reducible refine WF ?_)
 refine Ak (An Ae ?_)
 repeat' ((conv=>whnf);first|exact DC|(refine BX ?_;intros)|(refine DD ?_ ?_ ?_;rotate_left)|(refine BZ ?_ ?_<;>intro _)|refine Am hb ?_|with_reducible refine WF ?_)
 refine Ak (An Ae ?_)
 repeat' ((conv=>whnf);first|exact DC|(refine BX ?_;intros)|(refine DD ?_ ?_ ?_;rotate_left)|(refine BZ ?_ ?_<;>intro _)|refine Am hb ?_|with_reducible refine WF ?_)
 refine Ak (An Ae ?_)
 repeat' ((conv=>whnf);first|exact DC|(refine BX ?_;intros)|(refine DD ?_ ?_ ?_;rotate_left)|(refine BZ ?_ ?_<;>intro _)|refine Am (St.AM _ _ _) ?_|with_reducible refine WF ?_)
 refine ZG (st':=st.Aa b (qC s (p+1) false [] w1 [] w2)) (St.Kf _ _ _ _).symm ?_
 have U:=St.AM st b (qC s (p+1) false [] w1 [] w2)
 have hr1:=hr.set hb0 (qC s (p+1) false [] w1 [] w2)
 generalize st.Aa b (qC s (p+1) false [] w1 [] w2)=st1 at U hr1
 have hx:=JT (s.drop (p+1))
 have hbt:∀{R:AA->St->Prop},R (.ret (.int .u8 (KZ (s.drop (p+1))))) st1->PC 375 [.ptr b 0,.int .i64 0] st1 R:=λh=>EL (k:=0) hl AC Do U h
 have hqb:QB st0 st1 b s false:=⟨_,[],w1,[],w2,U,hr1⟩
 by_cases hq:AY (s.drop (p+1))=39
 .have h0:=h0 0 50 (if_pos hq) st1 hqb
  clear h
  refine An Ae ?_
  repeat' ((conv=>whnf);first|exact DC|(refine BX ?_;intros)|(refine DD ?_ ?_ ?_;rotate_left)|(refine BZ ?_ ?_<;>intro _)|refine Am U ?_|refine hbt ?_|refine F7 ?_|with_reducible refine WF ?_)
  exact fin h0 rfl
 refine Ak (An Ae ?_)
 repeat' ((conv=>whnf);first|exact DC|(refine BX ?_;intros)|(refine DD ?_ ?_ ?_;rotate_left)|(refine BZ ?_ ?_<;>intro _)|refine Am U ?_|with_reducible refine WF ?_)
 refine Ak (An Ae ?_)
 repeat' ((conv=>whnf);first|exact DC|(refine BX ?_;intros)|(refine DD ?_ ?_ ?_;rotate_left)|(refine BZ ?_ ?_<;>intro _)|refine hbt ?_|with_reducible refine WF ?_)
 refine Ak (An Ae ?_)
 repeat' ((conv=>whnf);first|exact DC|(refine BX ?_;intros)|(refine DD ?_ ?_ ?_;rotate_left)|(refine BZ ?_ ?_<;>intro _)|refine qo (st0:=st0) hl AC hb0 U hr1 GT GT (λe' hE st' hQ=>?_) (λv n hO u1 u2 st' g' hR hB hG=>?_)|with_reducible refine WF ?_)
 .exact fin (h0 0 e' (by unfold NV;rw [if_neg hq,hE]) st' hQ) rfl
 .have hle:=Mz hO
  rw [List.length_drop] at hle
  dsimp only at hle
  rw [if_neg (λx=>by cases x.1)] at hG
  subst hG
  have hc:NV (s.drop (p+1))=if AY (s.drop (p+1+n))=39 then .inr (n+1) else .inl (n,50):=by
   unfold NV
   rw [if_neg hq,hO]
   show (if AY ((s.drop (p+1)).drop n)=39 then _ else _)=_
   rw [List.drop_drop]
  have hx2:=JT (s.drop (p+1+n))
  have hbt2:∀{R:AA->St->Prop},R (.ret (.int .u8 (KZ (s.drop (p+1+n))))) st'->PC 375 [.ptr b 0,.int .i64 0] st' R:=λh=>EL (k:=0) hl AC Do hB h
  clear hbt U hr1 hqb hb hr
  by_cases hq2:AY (s.drop (p+1+n))=39
  .rw [if_pos hq2] at hc
   have h:=λst'=>h _ hc (TZ [] v) u1 u2 st'
   refine An Ae ?_
   repeat' ((conv=>whnf);first|exact DC|(refine BX ?_;intros)|(refine DD ?_ ?_ ?_;rotate_left)|(refine BZ ?_ ?_<;>intro _)|refine hbt2 ?_|refine Am hB ?_|with_reducible refine WF ?_)
   exact fin (h _ (hR.set hb0 _) ((St.AM _ _ _).trans (congrArg some (Sr AC)))) rfl
  .rw [if_neg hq2] at hc
   have h0:=h0 _ _ hc st' ⟨_,_,_,_,_,hB,hR⟩
   refine An Ae ?_
   repeat' ((conv=>whnf);first|exact DC|(refine BX ?_;intros)|(refine DD ?_ ?_ ?_;rotate_left)|(refine BZ ?_ ?_<;>intro _)|refine hbt2 ?_|refine Am hB ?_|refine F7 ?_|with_reducible refine WF ?_)
   exact fin h0 rfl
end
end Go.Proofs.Z
namespace Go.Aw
open Go
section
variable {D:List Deferred} {P:Program} {T:List (Nat×Ty)} {I0 I:Mem} {st0 st:St} {w0 w:World} {β:Nat->Option Nat} {env:Env} {a:Act}
theorem RB (hP:SS P T) (gl:List Nat) (hf:P.funcs[f]? =some fn) {c0 c1 c2 rest:Code} {rid:Nat} {mk df:Oper}
 (hb : fn.body = some (.seq c0 (.seq c1 (.seq c2 (.seq (.region rid #[mk, df] false) rest))))) (hn : (fn.name == "runtime.NumGoroutine") = false) {g : FuncId} {cap : Array Operand} {tf : Nat}
 (h1:mk.op=.makeFunc (.func g) #[] cap) (h2:mk.dst=some tf) (h3:mk.guard=none) (h4:df.op=.defer {callee:=.value (.tmp tf),args:=#[],argTypes:=#[]}) (h5:df.guard=none) (h6:df.dst=none)
 (hg:Plain P g) (hle:Nat.ble args.length fn.ntmps=true)
 (h:AW P c0 (B4 (λenv st=>AW P c1 (B4 (λenv st=>AW P c2 (λae env st=>match ae with
   | .normal=>UE env cap.toList λvs=>vs.all V.au=true/\env.go (some tf) (.func g [] vs) λenv=>AW P rest (YF P T g vs fn R) env st
   | .ret=>V5 T fn R env st
   |_=>False) env st) l5) env st) l5) {tmps:=Jy 0 args,boxes:=[],Bm:=0,sz:=fn.ntmps,gl} st):A9 P f args st R:=by
 refine ⟨?_,fn,hf,kw,hn⟩
 intro I w cargs hs hargs
 refine calls_of_wp_defers hf hb ?_
 refine wp_seq (wp_mono (h [] I st w I _ _ w (GW gl hs hargs hle)) ?_)
 rintro e a w1 ⟨I1,β1,env1,st1,ae,r1,x1,k1⟩
 cases ae with
 |exit _|goto _|ret|B0 _=>exact k1.elim
 |normal=>
 cases e with
 |exit _|goto _|ret|panic _|outgrown=>exact x1.elim
 |normal=>
 refine wp_seq (wp_mono (k1 [] I st w I1 _ _ w1 r1) ?_)
 rintro e a w2 ⟨I2,β2,env2,st2,ae,U,x2,k2⟩
 cases ae with
 |exit _|goto _|ret|B0 _=>exact k2.elim
 |normal=>
 cases e with
 |exit _|goto _|ret|panic _|outgrown=>exact x2.elim
 |normal=>
 refine wp_seq (wp_mono (k2 [] I st w I2 _ _ w2 U) ?_)
 clear k2 U x2
 rintro e a w2 ⟨I2,β2,env2,st2,ae,U,x2,k2⟩
 cases ae with
 |exit _|goto _|B0 _=>exact k2.elim
 |ret=>
  cases e with
  |normal|exit _|goto _|panic _|outgrown=>exact x2.elim
  |ret=>
   obtain ⟨v,c,g1,g2,g3⟩:=CM (P:=P) hP.t U k2
   show Leaves P fn a.tmps _ a.defers _ w2
   rw [U.f.defers]
   exact ⟨c,g1,I2,st2,.ret v,U.fr,U.s,g2,g3⟩
 |normal=>
 cases e with
 |exit _|goto _|ret|panic _|outgrown=>exact x2.elim
 |normal=>
 refine wp_seq (wp_region_list ?_)
 show wpList P #[mk,df] _ [mk,df] a w2
 unfold wpList
 rw [if_pos (by simp [Region.wanted,h3])]
 left
 obtain ⟨vs,hv,kp,kg⟩:=FO U.f (show UE env2 cap.toList _ from k2)
 have hcv:AK I2 (.func g [] vs) (.func (.func g) #[] (cap.map a.eval)):=by
  simp only [AK]
  exact ⟨[],cap.toList.map a.eval,by congr 1;grind,H1,hv⟩
 obtain ⟨env3,r3,k3⟩:=B9 U (AZ.of hcv) kg
 have htf:tf<a.tmps.size:=by
  rw [U.f.size]
  exact (G5 kg).1 tf rfl
 unfold Oper.wp
 rw [show (execOp a.eval mk).run P w2=.ok (.value (.func (.func g) #[] (cap.map a.eval))) w2 by simp only [execOp,h1,Array.map_empty];rfl]
 show wpList P #[mk,df] _ [df] (a.put mk.dst _) w2
 rw [h2]
 unfold wpList
 rw [if_pos (by simp [Region.wanted,h5])]
 left
 have hev:(a.put (some tf) (.func (.func g) #[] (cap.map a.eval))).eval (.tmp tf)=.func (.func g) #[] (cap.map a.eval):=by
  simp [Act.put,Act.eval,htf]
 unfold Oper.wp
 rw [show (execOp (a.put (some tf) (.func (.func g) #[] (cap.map a.eval))).eval df).run P w2=.ok (.defer {target:=.fn (.func g) (cap.map a.eval),args:=#[]}) w2 by
  simp only [execOp,h4,resolve,hev,Deferred.ofValue,Array.map_empty,Array.empty_append];rfl]
 rw [Oper.upon_defer]
 rw [h6]
 unfold wpList
 show rest.wp P _ _ _
 have r4:=r3.defer {target:=.fn (.func g) (cap.map a.eval),args:=#[]}
 refine wp_mono (k3 _ I st w I2 _ _ w2 r4) ?_
 rintro e a5 w5 ⟨I5,β5,env5,st5,ae,r5,x5,k5⟩
 have hd:=r5.f.defers
 obtain ⟨fn2,p1,p2,p3⟩:=hg
 have hinv:(invoke (.fn (.func g) (cap.map a.eval)) #[]).run P w5=.ok (.enter g (cap.toList.map a.eval).toArray) w5:=by
  have hb:fn2.body.isNone=false:=by cases hb:fn2.body<;>simp_all
  simp only [invoke,callFunc,Sem.run_bind,Sem.run_pure,Result.andThen_ok,run_program,p1]
  rw [p3]
  simp [hb]
  apply Array.ext';simp
 have last:∀{u:FrameMode} {x:Option V},u≠.run->(match x with|none=>u=.returning|some v=>∃c,u=.panicking [{v:=c,recovered:=false}]/\AK I5 v c)->IF P g vs x st5 (λst'=>V5 T fn R env5 st')->
  Leaves P fn a5.tmps (λe w'=>∃I' st' r,Fr I st w I' st' w'/\Ct I' st' w'/\V3 I' e r/\R r st') a5.defers u w5:=by
  intro u x hu hx k
  rw [hd]
  refine leaves_cons hu hinv ((k I5 w5 _ u r5.s (Aj.sl hv kp) hx).mono ?_)
  rintro e u' w6 ⟨⟨v,rfl⟩,hset,I6,st6,q1,q2,q3⟩
  show Leaves P fn a5.tmps _ [] (settle u') w6
  rw [hset]
  have r6:=r5.called q1 q2
  obtain ⟨v,c,g1,g2,g3⟩:=CM (P:=P) hP.t r6 q3
  exact ⟨c,g1,I6,st6,.ret v,r6.fr,r6.s,g2,g3⟩
 cases ae with
 |normal=>
  cases e with
  |normal=>exact last (x:=none) GT rfl k5
  |_=>exact x5.elim
 |ret=>
  cases e with
  |ret=>exact last (x:=none) GT rfl k5
  |_=>exact x5.elim
 |B0 v=>
  cases e with
  |panic chain=>
   obtain ⟨c,rfl,hc⟩:=x5
   exact last (x:=some v) GT ⟨c,rfl,hc⟩ k5
  |_=>exact x5.elim
 |exit _=>exact k5.elim
 |goto _=>exact k5.elim
end
section
variable {D:List Deferred} {P:Program} {T:List (Nat×Ty)} {C:FuncId->List V->St->(AA->St->Prop)->Prop} {I0 I:Mem} {st0 st:St} {w0 w:World} {β:Nat->Option Nat} {env:Env} {a:Act}
def kZ {X:Type} (T:List (Nat×Ty)) (C:FuncId->List V->St->(AA->St->Prop)->Prop) (all:List Oper) (Q:AH->Env->St->Prop) (E:X->List Bool->Env) (S:X->List Bool->St) (J:X->List Bool->Prop) (x:X) (p:List Bool×Nat):Prop:=
 match all[p.2]? with
 |some o=>Bf all o (E x p.1) (FI T C o (E x p.1) (S x p.1) (λv env st=>env.go o.dst v λenv=>∃y,J y (p.1.set p.2 true)/\(E y (p.1.set p.2 true)).Ff env/\St.le (S y (p.1.set p.2 true)) st) Q)
   ((E x p.1).go o.dst (.Bz []) λenv=>∃y,J y (p.1.set p.2 true)/\(E y (p.1.set p.2 true)).Ff env/\St.le (S y (p.1.set p.2 true)) (S x p.1))
 |none=>True
theorem XW (hT:Gj P T) (hC:∀f args st R,C f args st R->CB P f args st R/\Plain P f) {all:List Oper} {E:X->List Bool->Env} {S:X->List Bool->St} {J:X->List Bool->Prop} {PL:List (List Bool×Nat)}
 (hc:Hp all PL=true) (step:∀p ∈ PL,∀x,J x p.1->kZ T C all Q E S J x p) (fin:∀x,J x (List.replicate all.length true)->Q .normal (E x (List.replicate all.length true)) (S x (List.replicate all.length true))):
 ∀(fuel:Nat) (bs:List Bool) (listed:Array Bool) (I:Mem) (β:Nat->Option Nat) (a:Act) (w:World),bs.length=all.length->listed.toList=bs->bs.count false<=fuel->
  (∀j,j<all.length->Bx all bs j=true->(bs,j) ∈ PL)->(bs=List.replicate all.length true\/∃j,j<all.length/\Bx all bs j=true)->
  ∀x,J x bs->Rel D I0 st0 w0 I β (E x bs) (S x bs) a w->wpAny P .any all.toArray (B6 D I0 st0 w0 Q) fuel listed a w:=by
 have full:∀{bs:List Bool},bs.length=all.length->bs.count false=0->bs=List.replicate all.length true:=λ{bs} hb h0=>by
  rw [List.eq_replicate_iff]
  grind
 have noready:∀{j:Nat},Bx all (List.replicate all.length true) j=true->j<all.length->False:=λ{j} h U=>by
  unfold Bx at h
  simp_all
 simp only [Hp,Bool.and_eq_true,List.all_eq_true] at hc
 intro fuel
 induction fuel with
 |zero=>
  intro bs listed I β a w hb hl hf hp hr x U h
  have:=full hb AC
  subst this
  refine ⟨?_,⟨I,β,_,_,.normal,h,trivial,fin x U⟩⟩
  rw [List.eq_nil_iff_forall_not_mem]
  intro j U
  obtain ⟨h1,h2⟩:=(Es hl hb).1 U
  grind
 |succ fuel ih=>
  intro bs listed I β a w hb hl hf hp hr x U h
  refine ⟨λh0=>?_,λi hi=>?_⟩
  .rcases hr with rfl|⟨j,h1,h2⟩
   .exact ⟨I,β,_,_,.normal,h,trivial,fin x U⟩
   .have:=(Es hl hb).2 ⟨h1,h2⟩
    simp_all
  .obtain ⟨h1,h2⟩:=(Es hl hb).1 hi
   have hm:=hp i h1 h2
   have hs:=step _ hm x U
   unfold kZ at hs
   have ho:all[i]? =some all[i]:=List.getElem?_eq_getElem h1
   simp only [ho] at hs
   obtain ⟨⟨c1,c2⟩,c3⟩:=hc.2 _ hm
   refine LQ hT hC (Q:=Q) ho (λ{I β env st a w} h k=>?_) h hs (K:=λenv st=>∃y,J y (bs.set i true)/\(E y (bs.set i true)).Ff env/\St.le (S y (bs.set i true)) st)
   .obtain ⟨y,kj,k⟩:=k
    have hbi:i<bs.length:=AC
    refine ih (bs.set i true) _ I _ a w kw (by simp [hl]) ?_ (λj U hr=>?_) ?_ y kj ((h.Hn k.2).JA (Env.JC k.1))
    .have:=List.count_set (a:=true) (i:=i) (l:=bs) (b:=false) hbi
     unfold Bx at h2
     grind
    .grind
    grind
theorem mi (hP:SS P T) (hC:∀f args st R,C f args st R->CB P f args st R/\Plain P f) {id:Nat} {ops:Array Oper} (E:X->List Bool->Env) (S:X->List Bool->St) (J:X->List Bool->Prop) (x0:X) (PL:List (List Bool×Nat))
 (hc:Hp ops.toList PL=true) (j0:J x0 (List.replicate ops.toList.length false)) (h0:(E x0 (List.replicate ops.toList.length false)).Ff env) (s0:St.le (S x0 (List.replicate ops.toList.length false)) st) (step:∀p ∈ PL,∀x,J x p.1->kZ T C ops.toList Q E S J x p)
 (fin:∀x,J x (List.replicate ops.toList.length true)->Q .normal (E x (List.replicate ops.toList.length true)) (S x (List.replicate ops.toList.length true))):AW P (.region id ops true) Q env st:=λD I0 st0 w0 I β a w h=>
 wp_region_any hP.m (by
  have U:=hc
  simp only [Hp,Bool.and_eq_true,List.all_eq_true] at U
  have:=XW (D:=D) hP.t hC hc step fin ops.size (List.replicate ops.toList.length false) (Array.replicate ops.size false) I _ a _ GT GT GT (λj hj hr=>?_) ?_ x0 j0 (((h.IV (FL.drew w)).Hn s0).JA (Env.JC h0))
  .simp_all
  .grind
  simp_all)
end
theorem Be {st:St} {c:Nat} (h:b≠c):(st.Aa b cs).box c=st.box c:=by simp [St.Aa,Ne.symm h]
theorem En {st:St} {c:Nat} (h:(st.Aa b cs).fresh c):b≠c/\st.fresh c:=by
 by_cases e:b=c
 .subst e
  have:=h.1
  rw [St.AM] at this
  cases this
 .refine ⟨e,?_,h.2⟩
  have:=h.1
  rw [Be e] at this
  exact this
theorem S5 {st:St} {K:Nat->Prop} (h:∀b,st.fresh b->K b):∀b,st.fresh b->K b:=h
end Go.Aw
namespace Go.Proofs.Z
open Go Go.Aw
section
variable {st:St} {R:AA->St->Prop}
attribute [local irreducible] Go.Aw.Ah
theorem VW {b1 b2 b3:Nat} {U:St->Prop} (h:U st):IF Tryz.prog 330 [.ptr b1 0,.ptr b2 0,.ptr b3 0] none st U:=by
 refine Fj Ae [] Tryz.func330 rfl rfl rfl rfl rfl rfl rfl rfl (λenv0 he=>?_)
 subst he
 conv=>whnf
 refine Ak (An Ae ?_)
 repeat' ((conv=>whnf);first|exact DC|(refine BX ?_;intros)|(refine DD ?_ ?_ ?_;rotate_left)|(refine BZ ?_ ?_<;>intro _)|with_reducible refine WF ?_)
 all_goals exact h
theorem N8 {b1 b2 b3 U q:Nat} {e k0 e0:Int} {RS:St->Prop} (h1:st.box b1=some [.ptr U 0]) (h4:st.box U=some (qC s q tx o w1 g w2)) (h2:st.box b2=some [.int .i64 k0]) (h3:st.box b3=some [.int .i64 e0])
 (d2:U≠b2) (d3:U≠b3) (d5:b2≠b3) (h:RS (((st.Aa U (qC s p tx o w1 g w2)).Aa b2 [.int .i64 0]).Aa b3 [.int .i64 e])):IF Tryz.prog 330 [.ptr b1 0,.ptr b2 0,.ptr b3 0] (some (Jl p e)) st RS:=by
 refine Fj Ae [] Tryz.func330 rfl rfl rfl rfl rfl rfl rfl rfl (λenv0 he=>?_)
 subst he
 conv=>whnf
 refine Ak (An Ae ?_)
 repeat' ((conv=>whnf);first|exact DC|(refine BX ?_;intros)|(refine DD ?_ ?_ ?_;rotate_left)|(refine BZ ?_ ?_<;>intro _)|with_reducible refine WF ?_)
 refine Ak (An Ae ?_)
 repeat' ((conv=>whnf);first|exact DC|(refine BX ?_;intros)|(refine DD ?_ ?_ ?_;rotate_left)|(refine BZ ?_ ?_<;>intro _)|with_reducible refine WF ?_)
 refine Ak (An Ae ?_)
 repeat' ((conv=>whnf);first|exact DC|(refine BX ?_;intros)|(refine DD ?_ ?_ ?_;rotate_left)|(refine BZ ?_ ?_<;>intro _)|with_reducible refine WF ?_)
 have k2:∀cs,(st.Aa U cs).box b2=some [.int .i64 k0]:=λcs=>(Be d2).trans h2
 have k3:∀cs cs',((st.Aa U cs).Aa b2 cs').box b3=some [.int .i64 e0]:=λcs cs'=>(Be d5).trans ((Be d3).trans h3)
 refine An Ae ?_
 repeat' ((conv=>whnf);first|refine Af [(0,true),(1,true),(2,true),(3,true),(4,true),(5,true),(6,true),(7,false),(8,false),(9,false)] [] GE ?_|exact DC|(refine BX ?_;intros)|(refine DD ?_ ?_ ?_;rotate_left)|(refine BZ ?_ ?_<;>intro _)|refine Am h1 ?_|refine Am h4 ?_|refine Am (k2 _) ?_|refine Am (k3 _ _) ?_|with_reducible refine WF ?_)
 all_goals exact h
theorem qi (hl:s.length<=100000000) (U:AY (s.drop p)=34\/AY (s.drop p)=39) (hb0:st0.box b=none) (hb:st.box b=some (qC s p tx [] w1 [] w2)) (hr:BU st0 st w1 0 w2 0)
 (h0:∀(q:Nat) e tx',Cn s p=(0,(q:Int),e)->∀st',QB st0 st' b s tx'->R (.B0 (Jl q e)) st')
 (h:∀k (q:Nat),Cn s p=(k,(q:Int),0)->∀tx' o u1 g u2 st',BU st0 st' u1 (List.length o) u2 (2*List.length g)->st'.box b=some (qC s q tx' o u1 g u2)->R (.ret (.int .i64 k)) st'):PC 331 [.ptr b 0] st R:=by
 rcases U with U|U
 .refine dh hl U hb0 hb hr (λk e hT st' hQ=>h0 _ e true ?_ st' hQ) (λn hT u1 u2 st' hR hB=>h 14 _ ?_ _ _ _ _ _ st' hR hB)
  .unfold Cn;rw [if_pos U,hT]
  .unfold Cn;rw [if_pos U,hT]
 .refine dg hl U hb0 hb hr (λk e hT st' hQ=>h0 _ e false ?_ st' hQ) (λn hT o' u1 u2 st' hR hB=>h 13 _ ?_ _ _ _ _ _ st' hR hB)
  .unfold Cn;rw [if_neg AC,if_pos U,hT]
  .unfold Cn;rw [if_neg AC,if_pos U,hT]
noncomputable def oD:List Oper:=match Tryz.f270.body with|some (.seq _ (.seq _ (.seq _ (.seq _ (.seq (.region _ ops _) _)))))=>ops.toList|_=>[]
noncomputable def qu (b1 b2 b3 U:Nat) (K:Int) (bs:List Bool):Env:=
 {tmps:=Gp [(4,.ptr b1 0),(5,.ptr b2 0),(6,.ptr b3 0)] oD [.ptr U 0,.ptr U 0,.int .i64 K,.BT,.BT,.BT] bs,boxes:=[],Bm:=1,sz:=39,gl:=[4,5,6,10]}
def tR (b1 b2 b3 U:Nat) (K:Int) (m:St) (bs:List Bool):St:=
 match bs[3]?,bs[4]?,bs[5]? with
 |_,_,some true=>((m.Aa b1 [.ptr U 0]).Aa b2 [.int .i64 K]).Aa b3 [.int .i64 0]
 |_,some true,_=>(m.Aa b1 [.ptr U 0]).Aa b2 [.int .i64 K]
 |some true,_,_=>m.Aa b1 [.ptr U 0]
 |_,_,_=>m
def qv (s0 A:St) (b4:Nat) (s:List UInt8) (Q U:Int) (x:uV×Bool) (bs:List Bool):Prop:=match bs[2]? with
 |some true=>BU s0 x.1.m x.1.w1 x.1.o.length x.1.w2 (2*x.1.g.length)/\x.1.m.box b4=some (qC s x.1.q x.2 x.1.o x.1.w1 x.1.g x.1.w2)/\(x.1.q:Int)=Q/\U=0
 |_=>x.1.m=A
def jN:List (List Bool×Nat):=[([false,false,false,false,false,false],0),([false,false,false,false,false,false],1),([true,false,false,false,false,false],1),([false,true,false,false,false,false],0),([false,true,false,false,false,false],2),([true,true,false,false,false,false],2),([false,true,true,false,false,false],0),([true,true,true,false,false,false],3),([true,true,true,true,false,false],4),([true,true,true,true,true,false],5)]
noncomputable def jO:Code:=match Tryz.f270.body with|some (.seq _ (.seq _ (.seq _ (.seq _ r))))=>r|_=>.skip
theorem dC {s0:St} {b1 b2 b3 U:Nat} (hl:s.length<=100000000) (hq:AY (s.drop pos)=34\/AY (s.drop pos)=39) (hs0:s0.box U=none) (hsl:st.le s0) (n12:b1≠b2) (n13:b1≠b3) (n14:b1≠U) (n23:b2≠b3) (n24:b2≠U) (n34:b3≠U) (k1:st.box b1=none) (k2:st.box b2=none) (k3:st.box b3=none) (k4:st.box U=none)
 (m1:s0.box b1=some [.ptr U 0]) (m2:s0.box b2=some [.int .i64 0]) (m3:s0.box b3=some [.int .i64 0])
 (h:∀U (q:Nat) tx o w1 g w2 st',st.le st'->st'.box U=some (qC s q tx o w1 g w2)->(q:Int)=(Cn s pos).2.1->R (.ret (.Bz [.ptr U 0,.int .i64 (Cn s pos).1,.int .i64 (Cn s pos).2.2])) st'):
 AW Tryz.prog jO (YF Tryz.prog sW 330 [.ptr b1 0,.ptr b2 0,.ptr b3 0] Tryz.f270 (Go.Aw.Ends R)) (qu b1 b2 b3 U (Cn s pos).1 (List.replicate 6 false)) (s0.Aa U (qC s pos false [] .full [] .full)):=by
 have a1:∀C,(s0.Aa U C).box b1=some [.ptr U 0]:=λC=>(Be n14.symm).trans m1
 have hr0:BU s0 (s0.Aa U (qC s pos false [] .full [] .full)) .full 0 .full 0:=⟨trivial,trivial,trivial,trivial,trivial,St.Ar (St.le_refl _) hs0 _⟩
 refine Ak (mi Ae (Cb _) (λ_ bs=>qu b1 b2 b3 U (Cn s pos).1 bs) (λx bs=>tR b1 b2 b3 U (Cn s pos).1 x.1.m bs) (λx bs=>qv s0 (s0.Aa U (qC s pos false [] .full [] .full)) U s (Cn s pos).2.1 (Cn s pos).2.2 x bs) (⟨pos,[],[],.full,.full,s0.Aa U (qC s pos false [] .full [] .full)⟩,false) jN GE rfl Yl (St.le_refl _) ?_ ?_)
 .unfold jN
  repeat' (first|refine List.forall_mem_cons.2 ⟨?_,?_⟩|exact List.forall_mem_nil _)
  all_goals rintro ⟨⟨q,o,g,w1,w2,m⟩,tx⟩ hj
  all_goals dsimp only [qv,List.getElem?_cons_zero,List.getElem?_cons_succ] at hj
  all_goals try subst hj
  .skip
   repeat' ((conv=>whnf);first|exact DC|(refine BX ?_;intros)|(refine DD ?_ ?_ ?_;rotate_left)|(refine BZ ?_ ?_<;>intro _)|refine Am (a1 _) ?_|with_reducible refine WF ?_)
   all_goals conv=>whnf
   all_goals exact ⟨(⟨q,o,g,w1,w2,_⟩,tx),rfl,Yl,St.le_refl _⟩
  .skip
   repeat' ((conv=>whnf);first|exact DC|(refine BX ?_;intros)|(refine DD ?_ ?_ ?_;rotate_left)|(refine BZ ?_ ?_<;>intro _)|refine Am (a1 _) ?_|with_reducible refine WF ?_)
   all_goals conv=>whnf
   all_goals exact ⟨(⟨q,o,g,w1,w2,_⟩,tx),rfl,Yl,St.le_refl _⟩
  .skip
   repeat' ((conv=>whnf);first|exact DC|(refine BX ?_;intros)|(refine DD ?_ ?_ ?_;rotate_left)|(refine BZ ?_ ?_<;>intro _)|refine Am (a1 _) ?_|with_reducible refine WF ?_)
   all_goals conv=>whnf
   all_goals exact ⟨(⟨q,o,g,w1,w2,_⟩,tx),rfl,Yl,St.le_refl _⟩
  .skip
   repeat' ((conv=>whnf);first|exact DC|(refine BX ?_;intros)|(refine DD ?_ ?_ ?_;rotate_left)|(refine BZ ?_ ?_<;>intro _)|refine Am (a1 _) ?_|with_reducible refine WF ?_)
   all_goals conv=>whnf
   all_goals exact ⟨(⟨q,o,g,w1,w2,_⟩,tx),rfl,Yl,St.le_refl _⟩
  .skip
   repeat' ((conv=>whnf);first|exact DC|(refine BX ?_;intros)|(refine DD ?_ ?_ ?_;rotate_left)|(refine BZ ?_ ?_<;>intro _)|refine qi hl hq hs0 (St.AM ..) hr0 (λq' e' tx' hz st' hQ=>?_) (λk q' hz tx' o' u1 g' u2 st' hR hB=>?_)|refine Am (a1 _) ?_|with_reducible refine WF ?_)
   .obtain ⟨q1,o1,u1,g1,u2,hB,hR⟩:=hQ
    conv=>whnf
    refine N8 (hR.le.1 _ _ m1) hB (hR.le.1 _ _ m2) (hR.le.1 _ _ m3) n24.symm n34.symm n23 ?_
    have c1:(((st'.Aa U (qC s q' tx' o1 u1 g1 u2)).Aa b2 [.int .i64 0]).Aa b3 [.int .i64 e']).box b1=some [.ptr U 0]:=(Be n13.symm).trans ((Be n12.symm).trans ((Be n14.symm).trans (hR.le.1 _ _ m1)))
    have c2:(((st'.Aa U (qC s q' tx' o1 u1 g1 u2)).Aa b2 [.int .i64 0]).Aa b3 [.int .i64 e']).box b2=some [.int .i64 0]:=(Be n23.symm).trans (St.AM _ _ _)
    have c3:(((st'.Aa U (qC s q' tx' o1 u1 g1 u2)).Aa b2 [.int .i64 0]).Aa b3 [.int .i64 e']).box b3=some [.int .i64 e']:=St.AM _ _ _
    have c4:(((st'.Aa U (qC s q' tx' o1 u1 g1 u2)).Aa b2 [.int .i64 0]).Aa b3 [.int .i64 e']).box U=some (qC s q' tx' o1 u1 g1 u2):=(Be n34).trans ((Be n24).trans (St.AM _ _ _))
    have c5:(Cn s pos).1=0:=by rw [hz]
    have c6:(Cn s pos).2.1=q':=by rw [hz]
    have c7:(Cn s pos).2.2=e':=by rw [hz]
    have gg:=λle=>h U q' tx' o1 u1 g1 u2 _ le c4 c6.symm
    rw [c5,c7] at gg
    clear h hz c4 c5 c6 c7
    repeat' ((conv=>whnf);first|exact DC|(refine BX ?_;intros)|(refine DD ?_ ?_ ?_;rotate_left)|(refine BZ ?_ ?_<;>intro _)|refine Am c1 ?_|refine Am c2 ?_|refine Am c3 ?_|with_reducible refine WF ?_)
    exact fin (gg (St.Ar (St.Ar (St.Ar (St.le_trans hsl hR.le) k4 _) k2 _) k3 _)) rfl
   .have hz1:(Cn s pos).1=k:=by rw [hz]
    have hz2:(Cn s pos).2.1=q':=by rw [hz]
    have hz3:(Cn s pos).2.2=0:=by rw [hz]
    conv=>whnf
    rw [hz1,hz2]
    exact ⟨(⟨q',o',g',u1,u2,st'⟩,tx'),⟨hR,hB,rfl,hz3⟩,Yl,St.le_refl _⟩
  .skip
   repeat' ((conv=>whnf);first|exact DC|(refine BX ?_;intros)|(refine DD ?_ ?_ ?_;rotate_left)|(refine BZ ?_ ?_<;>intro _)|refine qi hl hq hs0 (St.AM ..) hr0 (λq' e' tx' hz st' hQ=>?_) (λk q' hz tx' o' u1 g' u2 st' hR hB=>?_)|refine Am (a1 _) ?_|with_reducible refine WF ?_)
   .obtain ⟨q1,o1,u1,g1,u2,hB,hR⟩:=hQ
    conv=>whnf
    refine N8 (hR.le.1 _ _ m1) hB (hR.le.1 _ _ m2) (hR.le.1 _ _ m3) n24.symm n34.symm n23 ?_
    have c1:(((st'.Aa U (qC s q' tx' o1 u1 g1 u2)).Aa b2 [.int .i64 0]).Aa b3 [.int .i64 e']).box b1=some [.ptr U 0]:=(Be n13.symm).trans ((Be n12.symm).trans ((Be n14.symm).trans (hR.le.1 _ _ m1)))
    have c2:(((st'.Aa U (qC s q' tx' o1 u1 g1 u2)).Aa b2 [.int .i64 0]).Aa b3 [.int .i64 e']).box b2=some [.int .i64 0]:=(Be n23.symm).trans (St.AM _ _ _)
    have c3:(((st'.Aa U (qC s q' tx' o1 u1 g1 u2)).Aa b2 [.int .i64 0]).Aa b3 [.int .i64 e']).box b3=some [.int .i64 e']:=St.AM _ _ _
    have c4:(((st'.Aa U (qC s q' tx' o1 u1 g1 u2)).Aa b2 [.int .i64 0]).Aa b3 [.int .i64 e']).box U=some (qC s q' tx' o1 u1 g1 u2):=(Be n34).trans ((Be n24).trans (St.AM _ _ _))
    have c5:(Cn s pos).1=0:=by rw [hz]
    have c6:(Cn s pos).2.1=q':=by rw [hz]
    have c7:(Cn s pos).2.2=e':=by rw [hz]
    have gg:=λle=>h U q' tx' o1 u1 g1 u2 _ le c4 c6.symm
    rw [c5,c7] at gg
    clear h hz c4 c5 c6 c7
    repeat' ((conv=>whnf);first|exact DC|(refine BX ?_;intros)|(refine DD ?_ ?_ ?_;rotate_left)|(refine BZ ?_ ?_<;>intro _)|refine Am c1 ?_|refine Am c2 ?_|refine Am c3 ?_|with_reducible refine WF ?_)
    exact fin (gg (St.Ar (St.Ar (St.Ar (St.le_trans hsl hR.le) k4 _) k2 _) k3 _)) rfl
   .have hz1:(Cn s pos).1=k:=by rw [hz]
    have hz2:(Cn s pos).2.1=q':=by rw [hz]
    have hz3:(Cn s pos).2.2=0:=by rw [hz]
    conv=>whnf
    rw [hz1,hz2]
    exact ⟨(⟨q',o',g',u1,u2,st'⟩,tx'),⟨hR,hB,rfl,hz3⟩,Yl,St.le_refl _⟩
  .have b1':m.box b1=some [.ptr U 0]:=hj.1.le.1 _ _ m1
   repeat' ((conv=>whnf);first|exact DC|(refine BX ?_;intros)|(refine DD ?_ ?_ ?_;rotate_left)|(refine BZ ?_ ?_<;>intro _)|refine Am b1' ?_|with_reducible refine WF ?_)
   all_goals conv=>whnf
   all_goals exact ⟨(⟨q,o,g,w1,w2,m⟩,tx),hj,Yl,St.le_refl _⟩
  .have b1':m.box b1=some [.ptr U 0]:=hj.1.le.1 _ _ m1
   repeat' ((conv=>whnf);first|exact DC|(refine BX ?_;intros)|(refine DD ?_ ?_ ?_;rotate_left)|(refine BZ ?_ ?_<;>intro _)|refine Am b1' ?_|with_reducible refine WF ?_)
   all_goals conv=>whnf
   all_goals exact ⟨(⟨q,o,g,w1,w2,m⟩,tx),hj,Yl,St.le_refl _⟩
  .have b2':(m.Aa b1 [.ptr U 0]).box b2=some [.int .i64 0]:=(Be n12).trans (hj.1.le.1 _ _ m2)
   repeat' ((conv=>whnf);first|exact DC|(refine BX ?_;intros)|(refine DD ?_ ?_ ?_;rotate_left)|(refine BZ ?_ ?_<;>intro _)|refine Am b2' ?_|with_reducible refine WF ?_)
   all_goals conv=>whnf
   all_goals exact ⟨(⟨q,o,g,w1,w2,m⟩,tx),hj,Yl,St.le_refl _⟩
  .have b3':((m.Aa b1 [.ptr U 0]).Aa b2 [.int .i64 (Cn s pos).1]).box b3=some [.int .i64 0]:=(Be n23).trans ((Be n13).trans (hj.1.le.1 _ _ m3))
   repeat' ((conv=>whnf);first|exact DC|(refine BX ?_;intros)|(refine DD ?_ ?_ ?_;rotate_left)|(refine BZ ?_ ?_<;>intro _)|refine Am b3' ?_|with_reducible refine WF ?_)
   all_goals conv=>whnf
   all_goals exact ⟨(⟨q,o,g,w1,w2,m⟩,tx),hj,Yl,St.le_refl _⟩
 .rintro ⟨⟨q,o,g,w1,w2,m⟩,tx⟩ ⟨j1,j2,j3,j0⟩
  dsimp only at j1 j2 j3 j0
  have c1:(((m.Aa b1 [.ptr U 0]).Aa b2 [.int .i64 (Cn s pos).1]).Aa b3 [.int .i64 0]).box b1=some [.ptr U 0]:=(Be n13.symm).trans ((Be n12.symm).trans (St.AM _ _ _))
  have c2:(((m.Aa b1 [.ptr U 0]).Aa b2 [.int .i64 (Cn s pos).1]).Aa b3 [.int .i64 0]).box b2=some [.int .i64 (Cn s pos).1]:=(Be n23.symm).trans (St.AM _ _ _)
  have c3:(((m.Aa b1 [.ptr U 0]).Aa b2 [.int .i64 (Cn s pos).1]).Aa b3 [.int .i64 0]).box b3=some [.int .i64 0]:=St.AM _ _ _
  have c4:(((m.Aa b1 [.ptr U 0]).Aa b2 [.int .i64 (Cn s pos).1]).Aa b3 [.int .i64 0]).box U=some (qC s q tx o w1 g w2):=(Be n34).trans ((Be n24).trans ((Be n14).trans j2))
  have gg:=λle=>h U q tx o w1 g w2 _ le c4 j3
  rw [j0] at gg
  clear h
  show AW _ _ _ _ _
  refine An Ae (VW ?_)
  repeat' ((conv=>whnf);first|exact DC|(refine BX ?_;intros)|(refine DD ?_ ?_ ?_;rotate_left)|(refine BZ ?_ ?_<;>intro _)|refine Am c1 ?_|refine Am c2 ?_|refine Am c3 ?_|with_reducible refine WF ?_)
  exact fin (gg (St.Ar (St.Ar (St.Ar (St.le_trans hsl j1.le) k1 _) k2 _) k3 _)) rfl
theorem sr (hl:s.length<=100000000) (hp:pos<s.length)
 (h:∀U (q:Nat) tx o w1 g w2 st',st.le st'->st'.box U=some (qC s q tx o w1 g w2)->(q:Int)=(Cn s pos).2.1->R (.ret (.Bz [.ptr U 0,.int .i64 (Cn s pos).1,.int .i64 (Cn s pos).2.2])) st'):PC 270 [.str s,.int .i64 pos] st R:=by
 obtain ⟨e,he⟩:∃e,s[pos]? =some e:=⟨s[pos],List.getElem?_eq_getElem hp⟩
 have he':s[(pos:Int).toNat]? =some e:=he
 have hv:=Ec he
 refine A9.ends (RB Ae [4,5,6,10] Tryz.func270 rfl Do rfl rfl rfl rfl rfl rfl ⟨_,Tryz.func330,rfl,Do⟩ rfl ?_)
 refine An Ae ?_
 repeat' ((conv=>whnf);first|exact DC|(refine BX ?_;intros)|(refine DD ?_ ?_ ?_;rotate_left)|(refine BZ ?_ ?_<;>intro _)|refine S5 (λb3 f3=>?_)|with_reducible refine WF ?_)
 rename_i b1 f1 b2 f2
 obtain ⟨n12,f2a⟩:=En f2
 obtain ⟨n23,f3a⟩:=En f3
 obtain ⟨n13,f3b⟩:=En f3a
 refine An Ae ?_
 have kk:∀U cs,((((st.Aa b1 [V.FH]).Aa b2 [V.int .i64 0]).Aa b3 [V.int .i64 0]).fresh U)->((((st.Aa b1 [V.FH]).Aa b2 [V.int .i64 0]).Aa b3 [V.int .i64 0]).Aa U cs).box b1=some [V.FH]:=λU cs f4=>by
  obtain ⟨m3,f4a⟩:=En f4
  obtain ⟨m2,f4b⟩:=En f4a
  obtain ⟨m1,f4c⟩:=En f4b
  simp [St.Aa,m1,n12,n13]
 repeat' ((conv=>whnf);first|exact DC|(refine BX ?_;intros)|(refine DD ?_ ?_ ?_;rotate_left)|(refine BZ ?_ ?_<;>intro _)|refine S5 (λU f4=>?_)|refine Am (kk _ _ f4) ?_|with_reducible refine WF ?_)
 obtain ⟨n34,f4a⟩:=En f4
 obtain ⟨n24,f4b⟩:=En f4a
 obtain ⟨n14,f4c⟩:=En f4b
 obtain ⟨s0,hs0,hsl,m1,m2,m3,hst⟩:∃s0:St,s0.box U=none/\st.le s0/\s0.box b1=some [.ptr U 0]/\s0.box b2=some [.int .i64 0]/\s0.box b3=some [.int .i64 0]/\
  s0.Aa U (qC s pos false [] .full [] .full)=(((((st.Aa b1 [V.FH]).Aa b2 [V.int .i64 0]).Aa b3 [V.int .i64 0]).Aa U (qC s pos false [] .full [] .full)).Aa b1 [.ptr U 0]):=by
  refine ⟨((st.Aa b1 [.ptr U 0]).Aa b2 [.int .i64 0]).Aa b3 [.int .i64 0],?_,St.Ar (St.Ar (St.Ar (St.le_refl _) f1.1 _) f2a.1 _) f3b.1 _,?_,?_,?_,?_⟩
  .simp [St.Aa,n14.symm,n24.symm,n34.symm];exact f4c.1
  .simp [St.Aa,n12,n13]
  .simp [St.Aa,n23]
  .simp [St.Aa]
  .simp only [St.Aa,St.mk.injEq,and_true]
   funext x
   by_cases x1:x=b1
   .subst x1;simp [n12,n13,n14]
   .by_cases x4:x=U
    .subst x4;simp [x1]
    .simp [x1,x4]
 refine ZG (st':=s0.Aa U (qC s pos false [] .full [] .full)) hst ?_
 clear kk f4 f4a f4b f3 f3a f2 hst
 have a1:∀C,(s0.Aa U C).box b1=some [.ptr U 0]:=λC=>(Be n14.symm).trans m1
 by_cases hq:AY (s.drop pos)=34\/AY (s.drop pos)=39
 .refine An Ae ?_
  repeat' ((conv=>whnf);first|exact DC|(refine BX ?_;intros)|(refine DD ?_ ?_ ?_;rotate_left)|(refine BZ ?_ ?_<;>intro _)|with_reducible refine WF ?_)
  all_goals conv=>whnf
  all_goals refine ⟨rfl,AQ rfl ?_⟩
  all_goals exact l8 (dC hl hq hs0 (St.le_trans hsl (St.le_refl _)) n12 n13 n14 n23 n24 n34 f1.1 f2a.1 f3b.1 f4c.1 m1 m2 m3 h) Yl (St.le_refl _)
 .have hz:Cn s pos=(0,0,0):=by unfold Cn;rw [if_neg (λx=>hq (.inl x)),if_neg (λx=>hq (.inr x))]
  rw [hz] at h
  have a1':∀C C',((s0.Aa U C).Aa U C').box b1=some [.ptr U 0]:=λC C'=>(Be n14.symm).trans (a1 C)
  have a2':∀C C' D,(((s0.Aa U C).Aa U C').Aa b1 D).box b2=some [.int .i64 0]:=λC C' D=>(Be n12).trans ((Be n24.symm).trans ((Be n24.symm).trans m2))
  have a3':∀C C' D F,((((s0.Aa U C).Aa U C').Aa b1 D).Aa b2 F).box b3=some [.int .i64 0]:=λC C' D F=>(Be n23).trans ((Be n13).trans ((Be n34.symm).trans ((Be n34.symm).trans m3)))
  have e3:∀C C' D F G,(((((s0.Aa U C).Aa U C').Aa b1 D).Aa b2 F).Aa b3 G).box b3=some G:=λC C' D F G=>St.AM _ _ _
  have e2:∀C C' D F G,(((((s0.Aa U C).Aa U C').Aa b1 D).Aa b2 F).Aa b3 G).box b2=some F:=λC C' D F G=>(Be n23.symm).trans (St.AM _ _ _)
  have e1:∀C C' D F G,(((((s0.Aa U C).Aa U C').Aa b1 D).Aa b2 F).Aa b3 G).box b1=some D:=λC C' D F G=>(Be n13.symm).trans ((Be n12.symm).trans (St.AM _ _ _))
  have e4:∀C C' D F G,(((((s0.Aa U C).Aa U C').Aa b1 D).Aa b2 F).Aa b3 G).box U=some C':=λC C' D F G=>(Be n34).trans ((Be n24).trans ((Be n14).trans (St.AM _ _ _)))
  refine An Ae ?_
  repeat' ((conv=>whnf);first|exact DC|(refine BX ?_;intros)|(refine DD ?_ ?_ ?_;rotate_left)|(refine BZ ?_ ?_<;>intro _)|refine Am (a1 _) ?_|refine Am (St.AM _ _ _) ?_|refine Am (a1' _ _) ?_|refine Am (a2' _ _ _) ?_|refine Am (a3' _ _ _ _) ?_|refine Am (e1 _ _ _ _ _) ?_|refine Am (e2 _ _ _ _ _) ?_|refine Am (e3 _ _ _ _ _) ?_|with_reducible refine WF ?_)
  exact fin (h U 0 false [] .full [] .full _ (St.Ar (St.Ar (St.Ar (St.Ar (St.Ar hsl f4c.1 _) f4c.1 _) f1.1 _) f2a.1 _) f3b.1 _) (e4 _ _ _ _ _) rfl) rfl
end
section
variable {st:St} {R:AA->St->Prop}
attribute [local irreducible] Go.Aw.Ah
theorem oB (hl:s.length<=100000000) (hp:pos<s.length) (h:R (.ret (.Bz [.int .i64 (Cn s pos).1,.int .i64 (Cn s pos).2.1,.int .i64 (Cn s pos).2.2])) st):PC 203 [.str s,.int .i64 pos] st R:=by
 refine pB Tryz.func203 ?_
 repeat' ((conv=>whnf);first|exact DC|(refine BX ?_;intros)|(refine DD ?_ ?_ ?_;rotate_left)|(refine BZ ?_ ?_<;>intro _)|refine sr hl hp (λb4 q tx o w1 g w2 st' U hb hq=>?_)|refine Am hb ?_|with_reducible refine WF ?_)
 all_goals rw [<-hq] at h
 all_goals exact EH U rfl h
end
end Go.Proofs.Z
namespace Go.Aw
open Go
theorem YW (h:(Cz l).1≠10):D6 l=(11,2+BD (Cz l).1 (l.drop 2)):=if_pos h
theorem ju (h:(Cz l).1=10) (k:BD 10 l=0):D6 l=(0,0):=by unfold D6;rw [if_neg (λe=>e h),if_pos k]
theorem YX {f e:Nat} (h:(Cz l).1=10) (hn:BD 10 l=n) (U:n≠0) (hf:H6 (l.drop n)=f) (he:Mf (l.drop (n+f))=e):D6 l=(if 0<f\/0<e then 12 else 11,n+f+e):=by
 subst hn;subst hf;subst he
 unfold D6;rw [if_neg (λe=>e h),if_neg U]
theorem bg {b:Int} (h:Cz l=(b,2)):AY l=48/\2<=l.length:=by
 unfold Cz at h
 split at h
 .rename_i hc
  refine ⟨hc.1,?_⟩
  have:=hc.2.2
  have U:=Ex (EB l) (l.drop 2)
  rw [List.length_drop] at U
  omega
 .injection h with _ h;cases h
def Mx (s:List UInt8) (pos:Nat):Int×Int:=if (D6 (s.drop pos)).1=0 then (0,0) else ((D6 (s.drop pos)).1,(pos+(D6 (s.drop pos)).2:Nat))
end Go.Aw
namespace Go.Proofs.Z
open Go Go.Aw
section
variable {st:St} {R:AA->St->Prop}
theorem tn (e:i.toNat=n) (h:R (.ret (.bool (decide (AY (s.drop n)=46)))) st):PC 130 [.str (s.drop i.toNat),.str [46]] st R:=by
 refine Ip ?_
 rw [C1,e]
 exact h
theorem Yh (e:i.toNat=n) (U:s.length<=4611686018427387903) (h:R (.ret (.int .i64 (Mf (s.drop n):Nat))) st):PC 329 [.str (s.drop i.toNat)] st R:=by
 rw [e];exact Yg M2 h
theorem ki {b:Int} (e:i.toNat=n) (U:s.length<=4611686018427387903) (h:R (.ret (.int .i64 (BD b (s.drop n):Nat))) st):PC 328 [.str (s.drop i.toNat),.int .i64 b] st R:=by
 rw [e];exact qz M2 h
theorem qA {b:Int} {v:Nat} (e:i.toNat=n) (hv:BD b (s.drop n)=v) (U:s.length<=4611686018427387903) (h:R (.ret (.int .i64 v)) st):PC 328 [.str (s.drop i.toNat),.int .i64 b] st R:=
 ki e U (by rw [hv];exact h)
theorem PY {v:Nat} (e:i.toNat=n) (hv:Mf (s.drop n)=v) (U:s.length<=4611686018427387903) (h:R (.ret (.int .i64 v)) st):PC 329 [.str (s.drop i.toNat)] st R:=
 Yh e U (by rw [hv];exact h)
theorem O0 {k:Int} (U:D6 s=(k,n)) (e2:i.toNat=n):AA.ret (.Bz [.int .i64 (D6 s).1,.str (s.take (D6 s).2)])=AA.ret (.Bz [.int .i64 k,.str (s.take i.toNat)]):=by rw [U,e2]
theorem jv (U:D6 s=(0,0)):AA.ret (.Bz [.int .i64 (D6 s).1,.str (s.take (D6 s).2)])=AA.ret (.Bz [.int .i64 0,.str []]):=by rw [U];rfl
theorem Jj {b:Int} (hp:Cz s=(b,n)) (U:s.length<=4611686018427387903) (h:R (.ret (.Bz [.int .i64 b,.int .i64 n])) st):PC 327 [.str s] st R:=
 Y4 U (by rw [hp];exact h)
theorem aS (hl:s.length<=4611686018427387903) (h:R (.ret (.Bz [.int .i64 (D6 s).1,.str (s.take (D6 s).2)])) st):PC 269 [.str s] st R:=by
 have hle:=TV s
 refine pB Tryz.func269 ?_
 rcases MG s with hp|⟨hp,_⟩|⟨hp,_⟩
 .have h1:=Ex 10 s
  have h2:=Vf (s.drop (BD 10 s))
  have h3:=ah (s.drop (BD 10 s+H6 (s.drop (BD 10 s))))
  rw [List.length_drop] at h2 h3
  generalize hr:BD 10 s=r at h1 h2 h3
  have hr0:BD 10 (s.drop 0)=r:=hr
  generalize hf:H6 (s.drop r)=f at h2 h3
  generalize he:Mf (s.drop (r+f))=e at h3
  have h4:=Ex 10 (s.drop (r+1))
  have e0:(Cz s).1=10:=by rw [hp]
  have hlt:=gx s r
  have hfd:(AY (s.drop r)=46/\BD 10 (s.drop (r+1))≠0/\f=1+BD 10 (s.drop (r+1)))\/((AY (s.drop r)≠46\/BD 10 (s.drop (r+1))=0)/\f=0):=by
   rw [<-hf]
   unfold H6
   rw [List.drop_drop]
   split<;>omega
  rw [List.length_drop] at h4
  generalize hd:BD 10 (s.drop (r+1))=d at h4 hfd
  repeat' ((conv=>whnf);first|exact DC|(refine BX ?_;intros)|(refine DD ?_ ?_ ?_;rotate_left)|(refine BZ ?_ ?_<;>intro _)|refine Jj hp hl ?_|refine qA AC hr0 hl ?_|refine qA AC hd hl ?_|refine tn (n:=r) AC ?_|refine PY AC he hl ?_|refine PY AC he' hl ?_|with_reducible refine WF ?_)
  all_goals first
   |(have U:=ju e0 AC;exact fin h (jv U))
   |(have U:=YX e0 hr AC hf he;rw [if_pos AC] at U;exact fin h (O0 U AC))
   |(have U:=YX e0 hr AC hf he;rw [if_neg AC] at U;exact fin h (O0 U AC))
 .have hr:=Ex 8 (s.drop 2)
  have h2:=(bg hp).2
  rw [List.length_drop] at hr
  repeat' ((conv=>whnf);first|exact DC|(refine BX ?_;intros)|(refine DD ?_ ?_ ?_;rotate_left)|(refine BZ ?_ ?_<;>intro _)|refine Jj hp hl ?_|refine ki (n:=2) AC hl ?_|with_reducible refine WF ?_)
  all_goals (have U:=YW (l:=s) (by rw [hp];decide);rw [hp] at U;dsimp only at U;exact fin h (O0 U AC))
 .have hr:=Ex 16 (s.drop 2)
  have h2:=(bg hp).2
  rw [List.length_drop] at hr
  repeat' ((conv=>whnf);first|exact DC|(refine BX ?_;intros)|(refine DD ?_ ?_ ?_;rotate_left)|(refine BZ ?_ ?_<;>intro _)|refine Jj hp hl ?_|refine ki (n:=2) AC hl ?_|with_reducible refine WF ?_)
  all_goals (have U:=YW (l:=s) (by rw [hp];decide);rw [hp] at U;dsimp only at U;exact fin h (O0 U AC))
theorem jt (hl:s.length<=4611686018427387903) (hp:pos<s.length) (h:R (.ret (.Bz [.int .i64 (Mx s pos).1,.int .i64 (Mx s pos).2])) st):PC 202 [.str s,.int .i64 pos] st R:=by
 have hw:=TV (s.drop pos)
 have ht:((s.drop pos).take (D6 (s.drop pos)).2).length=(D6 (s.drop pos)).2:=Pi
 rw [List.length_drop] at hw
 have U:(s.drop pos).length<=4611686018427387903:=M2
 refine pB Tryz.func202 ?_
 repeat' ((conv=>whnf);first|(refine BX ?_;intros)|(refine BZ ?_ ?_<;>intro _)|refine aS U ?_)
 .exact fin h (by unfold Mx;rw [if_pos ‹_›];simp_all)
 .exact fin h (by unfold Mx;rw [if_neg ‹_›];simp only [];rw [show (pos:Int).toNat=pos by omega] at *;rw [ht];rfl)
end
end Go.Proofs.Z
namespace Go.Aw
open Go
def Cj (s:List UInt8) (p:Nat):Int×Int×Int:=
 if (Mx s p).1≠0 then ((Mx s p).1,(Mx s p).2,0)
 else if (Cn s p).1=0/\(Cn s p).2.2=0 then
  if (FF s p).1=0 then (0,p,70) else ((FF s p).1,(FF s p).2,0)
 else Cn s p
def OU (s:List UInt8) (p sp:Nat) (U Cu:Int) (Ag notes:List (List V)) (w1 w2:AJ) (Dx ends:Int) (j:Bool):List V:=
 [.str s,.int .i64 p,.int .i64 sp,.int .i64 U,.int .i64 Cu,.slice 4 Ag w1,.slice 5 notes w2,.int .i64 Dx,.int .i64 ends,.bool j]
end Go.Aw
namespace Go.Proofs.Z
open Go Go.Aw
section
variable {st:St} {R:AA->St->Prop}
theorem rU {sp:Nat} {U Cu ends:Int} (hl:s.length<=100000000) (hp:p<s.length) (hb:st.box b=some (OU s p sp U Cu Ag notes w1 w2 Dx ends j))
 (h:R (.ret (.agg [.int .i64 (Mx s p).1,.int .i64 (Mx s p).2,.int .i64 0])) st):PC 134 [.ptr b 0] st R:=by
 refine pB Tryz.func134 ?_
 repeat' ((conv=>whnf);first|exact Db|(refine Bv ?_;intros)|(refine Dc ?_ ?_ ?_;rotate_left)|(refine Bw ?_ ?_<;>intro _)|refine Am hb ?_|refine jt AC hp ?_|refine Af [(0,true),(1,true),(2,true),(3,true),(4,true),(5,true),(6,true),(7,true),(8,false),(9,true),(10,true),(11,true),(12,true),(13,true)] [] GE ?_|with_reducible refine WF ?_)
 all_goals exact fin h rfl
theorem rX {sp:Nat} {Cu ends:Int} (U:s.length<=100000000) (hp:p<s.length) (hb:st.box b=some (OU s p sp ln Cu Ag notes w1 w2 Dx ends j))
 (h:R (.ret (.agg [.int .i64 (FF s p).1,.int .i64 (FF s p).2,.int .i64 0])) st):PC 136 [.ptr b 0] st R:=by
 refine pB Tryz.func136 ?_
 repeat' ((conv=>whnf);first|exact Db|(refine Bv ?_;intros)|(refine Dc ?_ ?_ ?_;rotate_left)|(refine Bw ?_ ?_<;>intro _)|refine Am hb ?_|refine lX U hp ?_|refine Af [(0,true),(1,true),(2,true),(3,true),(4,true),(5,true),(6,true),(7,true),(8,false),(9,true),(10,true),(11,true),(12,true),(13,true)] [] GE ?_|with_reducible refine WF ?_)
 all_goals exact fin h rfl
theorem rT {sp:Nat} {Cu ends:Int} (U:s.length<=100000000) (hp:p<s.length) (hb:st.box b=some (OU s p sp ln Cu Ag notes w1 w2 Dx ends j))
 (h:R (.ret (.agg [.int .i64 (Cn s p).1,.int .i64 (Cn s p).2.1,.int .i64 (Cn s p).2.2])) st):PC 135 [.ptr b 0] st R:=by
 refine pB Tryz.func135 ?_
 repeat' ((conv=>whnf);first|exact Db|(refine Bv ?_;intros)|(refine Dc ?_ ?_ ?_;rotate_left)|(refine Bw ?_ ?_<;>intro _)|refine Am hb ?_|refine oB U hp ?_|refine Af [(0,true),(1,true),(2,true),(3,true),(4,true),(5,true),(6,true),(7,true),(8,false),(9,true),(10,true),(11,true),(12,true),(13,true),(14,true),(15,true)] [] GE ?_|with_reducible refine WF ?_)
 all_goals exact fin h rfl
theorem iV {sp:Nat} {Cu ends:Int} (hl:s.length<=100000000) (hp:p<s.length) (hb:st.box b=some (OU s p sp ln Cu Ag notes w1 w2 Dx ends j))
 (h:R (.ret (.agg [.int .i64 (Cj s p).1,.int .i64 (Cj s p).2.1,.int .i64 (Cj s p).2.2])) st):PC 62 [.ptr b 0] st R:=by
 refine pB Tryz.func62 ?_
 have U:∀a b c,Cj s p=(a,b,c)->R (.ret (.agg [.int .i64 a,.int .i64 b,.int .i64 c])) st:=λa b c e=>by rw [e] at h;exact h
 clear h
 unfold Cj at U
 repeat' ((conv=>whnf);first|(refine Bv ?_;intros)|(refine Bw ?_ ?_<;>intro _)|refine rU hl hp hb ?_|refine rT hl hp hb ?_|refine rX hl hp hb ?_|refine Am hb ?_)
 .exact fin (U _ _ _ (by rw [if_neg AC,if_pos ⟨AC,AC⟩,if_pos AC])) rfl
 .exact fin (U _ _ _ (by rw [if_neg AC,if_pos ⟨AC,AC⟩,if_neg AC])) rfl
 .exact fin (U _ _ _ (by rw [if_neg AC,if_neg (λx=>by omega)])) rfl
 .exact fin (U _ _ _ (by rw [if_neg AC,if_neg (λx=>by omega)])) rfl
 .exact fin (U _ _ _ (by rw [if_pos AC])) rfl
end
section
variable {st:St} {R:AA->St->Prop}
theorem US {k Cu:Int} (h:R (.ret (.bool (decide (¬k=15)|| !Lib.contains [123,125,59] t))) st):PC 137 [.agg [.int .i64 k,.str t,.int .i64 ln,.int .i64 Cu]] st R:=by
 refine pB Tryz.func137 ?_
 repeat' ((conv=>whnf);first|(refine Bv ?_;intros)|(refine Bw ?_ ?_<;>intro _)|refine X9 Do ?_)
 all_goals first
  |exact At h (by simp [*])
  |(rename_i U _;exact At h (by simp [U]))
theorem L5 {sp:Nat} {U Cu ends:Int} (hl:s.length<=100000000) (hp:p<=s.length) (hb:st.box b=some (OU s p sp U Cu Ag notes w1 w2 Dx ends j))
 (h:R (.ret (.Bz [])) (st.Aa b (OU s (p+BW (λc=>AF c==1) (s.drop p)) sp U Cu Ag notes w1 w2 Dx ends j))):PC 59 [.ptr b 0] st R:=by
 refine pB Tryz.func59 ?_
 repeat' ((conv=>whnf);first|refine Af [(0,true),(1,true),(2,true),(3,true),(4,true),(5,true),(6,true),(7,true),(8,true),(9,false),(10,true),(11,true),(12,false)] [] GE ?_|exact Db|(refine Bv ?_;intros)|(refine Dc ?_ ?_ ?_;rotate_left)|(refine Bw ?_ ?_<;>intro _)|refine Am hb ?_|refine KM hl hp rfl rfl ?_|with_reducible refine WF ?_)
 all_goals exact fin h rfl
end
end Go.Proofs.Z
namespace Go.Aw
open Go
def A1 (s:List UInt8) (a b:Nat):List UInt8:=(s.take b).drop a
theorem T2 {a:Nat} {K:List UInt8->Prop} (U:a<=b) (h2:b<=s.length) (k:K (A1 s a b)):
 (0<=(a:Int)/\(a:Int)<=b/\(b:Int)<=s.length)/\∀s',s'=(s.take (b:Int).toNat).drop (a:Int).toNat->K s':=
 ⟨⟨AC,AC,AC⟩,λs' e=>by
   rw [show (b:Int).toNat=b by omega,show (a:Int).toNat=a by omega] at e
   subst e;exact k⟩
end Go.Aw
namespace Go.Proofs.Z
open Go Go.Aw
section
variable {st:St} {R:AA->St->Prop}
theorem uO {sp q:Nat} {Cu ends:Int} (hl:s.length<=100000000) (hsp:sp<=q) (hq:q<=s.length) (hln:1<=ln/\ln<=1000000000) (U:1<=Cu/\Cu<=2147483648)
 (hw:1<=(BQ (A1 s sp q) (A1 s sp q).length (1,1)).1/\(BQ (A1 s sp q) (A1 s sp q).length (1,1)).1<=1000000000)
 (hb:st.box b=some (OU s p sp ln Cu Ag notes w1 w2 Dx ends j))
 (h:R (.ret (.Bz [.int .i64 (ln+(BQ (A1 s sp q) (A1 s sp q).length (1,1)).1 - 1),.int .i64 (BQ (A1 s sp q) (A1 s sp q).length (1,Cu)).2]))
   (st.Aa b (OU s p q (ln+(BQ (A1 s sp q) (A1 s sp q).length (1,1)).1 - 1) (BQ (A1 s sp q) (A1 s sp q).length (1,Cu)).2 Ag notes w1 w2 Dx ends j))):PC 133 [.ptr b 0,.int .i64 q] st R:=by
 have hpl:(A1 s sp q).length<=100000000:=by unfold A1;rw [List.length_drop,List.length_take];omega
 have b2:∀cs,(st.Aa b cs).box b=some cs:=λcs=>St.AM _ _ _
 refine pB Tryz.func133 ?_
 repeat' ((conv=>whnf);first|exact Db|(refine Bv ?_;intros)|(refine Dc ?_ ?_ ?_;rotate_left)|(refine Bw ?_ ?_<;>intro _)|refine T2 hsp hq ?_|refine (λ(_:(A1 s sp q).length<C9)=>?_)|refine uI hpl (Nat.le_refl _) ?_|refine pQ hpl U.1 U.2 ?_|refine Am hb ?_|refine Am (b2 _) ?_|with_reducible refine WF ?_)
 all_goals exact fin h rfl
end
end Go.Proofs.Z
namespace Go.Aw
open Go
def Cr (s:List UInt8) (a b:Nat) (p:Int×Int):Int×Int:=BQ (A1 s a b) (A1 s a b).length p
theorem Io {a:Nat} (U:a<=b) (h2:b<=s.length):(A1 s a b).length=b - a:=by
 unfold A1;rw [List.length_drop,List.length_take];omega
theorem aZ {a:Nat} {p:Int×Int} (U:a<=b) (h2:b<=s.length) (h:1<=p.2):p.1<=(Cr s a b p).1/\(Cr s a b p).1<=p.1+(b - a:Nat)/\1<=(Cr s a b p).2/\(Cr s a b p).2<=p.2+8*(b - a:Nat):=by
 have:=UA _ (A1 s a b) (A1 s a b).length p (Nat.le_refl _) h
 rw [Io U h2] at this
 unfold Cr
 rw [Io U h2]
 omega
end Go.Aw
namespace Go.Proofs.Z
open Go Go.Aw
section
variable {st:St} {R:AA->St->Prop}
theorem ph {sp q:Nat} {U Cu ends:Int} (hl:s.length<=100000000) (hsp:sp<=q) (hq:q<=s.length) (hln:1<=U/\U<=1000000000) (hcol:1<=Cu/\Cu<=2147483648)
 (hb:st.box b=some (OU s p sp U Cu Ag notes w1 w2 Dx ends j))
 (h:R (.ret (.Bz [.int .i64 (Cr s sp q (U,Cu)).1,.int .i64 (Cr s sp q (U,Cu)).2]))
   (st.Aa b (OU s p q (Cr s sp q (U,Cu)).1 (Cr s sp q (U,Cu)).2 Ag notes w1 w2 Dx ends j))):PC 133 [.ptr b 0,.int .i64 q] st R:=by
 have hlen:=Io hsp hq
 have h1:=UA _ (A1 s sp q) (A1 s sp q).length (1,1) (Nat.le_refl _) Do
 have h2:=SP _ (A1 s sp q) (A1 s sp q).length 1 1 Cu U (Nat.le_refl _)
 have h3:=XG _ (A1 s sp q) (A1 s sp q).length 1 Cu U (Nat.le_refl _)
 have e1:U+(BQ (A1 s sp q) (A1 s sp q).length (1,1)).1 - 1=(Cr s sp q (U,Cu)).1:=by unfold Cr;omega
 have e2:(BQ (A1 s sp q) (A1 s sp q).length (1,Cu)).2=(Cr s sp q (U,Cu)).2:=h3
 refine uO hl hsp hq hln hcol ⟨by dsimp only at h1;omega,by dsimp only at h1;omega⟩ hb ?_
 rw [e1,e2]
 exact h
end
end Go.Proofs.Z
namespace Go.Aw
open Go
theorem XF {a:Nat} (h:BF l a) (k:Nat) (p:Int×Int):BQ l (a+k) p=BQ (l.drop a) k (BQ l a p):=by
 induction h generalizing p with
 |zero l=>rw [E6,Nat.zero_add,List.drop_zero]
 |@step l j U h ih=>
  rw [Ek U AC,Ek (k:=AX l+j) U AC,show AX l+j+k - AX l=j+k by omega,show AX l+j - AX l=j by omega,ih,List.drop_drop]
theorem J2 (h:0<m):AY (l.take m)=AY l:=by
 cases l with
 |nil=>rw [List.take_nil]
 |cons a r=>
  obtain ⟨m,rfl⟩:∃k,m=k+1:=⟨m - 1,AC⟩
  rfl
theorem R7:AY ((l.take m).drop 1)=if 1<m then AY (l.drop 1) else -1:=by
 rw [List.drop_take]
 by_cases h:1<m
 .rw [if_pos h,J2 AC]
 .rw [if_neg h,show m - 1=0 by omega,List.take_zero];rfl
theorem jq (h:0<m) (h2:Hl l<=m):Hl (l.take m)=Hl l:=by
 rcases Fb l with ⟨e,U⟩|⟨e,U,h3⟩|⟨e,U,h3⟩
 .rw [e];unfold Hl;rw [J2 h,if_neg (λx=>U (.inl x.1)),if_neg U]
 .rw [e];unfold Hl;rw [J2 h,R7,if_neg,if_pos U]
  rintro ⟨x,y⟩
  split at y
  .exact h3 ⟨x,y⟩
  .exact absurd y Do
 .rw [e];unfold Hl;rw [J2 h,R7,if_pos (show 1<m by omega),if_pos ⟨U,h3⟩]
theorem eV (h:BF l k) (hv:Vd l) (p:Int×Int):BQ (l.take k) k p=BQ l k p:=by
 induction h generalizing p with
 |zero l=>rw [E6,E6]
 |@step l j U h ih=>
  have h1:=FC U
  have hn:Hl (l.take (AX l+j))=Hl l:=jq AC (by
   by_cases hc:0<Hl l
   .have e:AX l=Hl l:=if_pos hc
    omega
   .omega)
  have hr:=hv.rune U
  have es:AX (l.take (AX l+j))=AX l:=by
   by_cases hc:0<Hl l
   .have e3:AX (l.take (AX l+j))=Hl (l.take (AX l+j)):=if_pos (by rw [hn];exact hc)
    rw [e3,hn];exact (if_pos hc).symm
   .have e1:AX l=(AL l).2:=if_neg hc
    have e2:AL (l.take (AX l+j))=AL l:=by
     have:=PK U hr.1 ((l.take (AX l+j)).drop (AL l).2)
     rwa [show l.take (AL l).2=(l.take (AX l+j)).take (AL l).2 by rw [List.take_take,Nat.min_eq_left AC],List.take_append_drop] at this
    have e3:AX (l.take (AX l+j))=(AL (l.take (AX l+j))).2:=if_neg (by rw [hn];exact hc)
    rw [e3,e2];exact e1.symm
  have hne':l.take (AX l+j)≠[]:=λe=>by
   have:=congrArg List.length e
   rw [List.length_take,List.length_nil] at this;omega
  have hv':Vd (l.drop (AX l)):=(BF.step U (.zero (l.drop (AX l)))).bd.vd hv
  rw [Ek hne' AC,Ek U AC,es,show AX l+j - AX l=j by omega,List.drop_take,show AX l+j - AX l=j by omega,ih hv']
  congr 1
  unfold EE FB
  rw [hn,J2 AC]
def C2 (s:List UInt8) (p:Nat):Int×Int:=BQ s p (1,1)
theorem jH {a:Nat} (hv:Vd s) (U:BF s a) (hb:BF (s.drop a) (b - a)) (h:a<=b) (hl:b<=s.length):Cr s a b (C2 s a)=C2 s b:=by
 have e:A1 s a b=(s.drop a).take (b - a):=by unfold A1;rw [List.drop_take]
 have hp:=Io h hl
 unfold Cr C2
 rw [hp,e,eV hb (U.bd.vd hv),<-XF U,show a+(b - a)=b by omega]
def tr (l:List UInt8) (m:Nat) (r:List UInt8):List UInt8:=l.take m++r
def uh (r:List UInt8):Prop:=AY r= -1\/AY r=32\/AY r=10
theorem nG (h:AY r= -1):r=[]:=by
 cases r with
 |nil=>rfl
 |cons a r=>have h:((a.toNat:Nat):Int)= -1:=h;omega
theorem Pg:tr l 0 r=r:=H1
theorem Jv {j:Nat} (h:j<=m) (U:m<=l.length):(tr l m r).drop j=tr (l.drop j) (m - j) r:=by
 unfold tr;rw [List.drop_append_of_le_length kw,List.drop_take]
theorem Oo (h:0<m) (U:m<=l.length):AY (tr l m r)=AY l:=by
 cases l with
 |nil=>simp_all
 |cons a l=>
  obtain ⟨m,rfl⟩:∃k,m=k+1:=⟨m - 1,AC⟩
  rfl
theorem lK {j:Nat} (h:j<m) (U:m<=l.length):AY ((tr l m r).drop j)=AY (l.drop j):=by
 rw [Jv AC U,Oo AC (by grind)]
theorem pt (h:n<=m) (U:m<=l.length):(tr l m r).take n=l.take n:=by
 unfold tr
 grind
theorem Zv (U:m<=l.length):(tr l m r).length=m+r.length:=by
 unfold tr;simp_all
theorem gu (hv:Vd l) (h0:0<m) (hm:m<=l.length) (hb:Bd l m):AL (tr l m r)=AL l/\(AL l).2<=m:=by
 have U:l≠[]:=λe=>by simp_all
 have hd:(AL l).2<=m:=by
  cases hb with
  |zero=>omega
  |step _ _=>omega
 have:=PK U (hv.rune U).1 ((l.take m).drop (AL l).2++r)
 rw [<-List.append_assoc] at this
 rw [show l.take (AL l).2=(l.take m).take (AL l).2 by grind,List.take_append_drop] at this
 exact ⟨this,hd⟩
theorem oS {p:Nat×Nat->Bool} (hv:Vd l) (hb:Bd l m) (hm:m<=l.length) (hr:Bs p r=0) (h:Bs p l<=m):Bs p (tr l m r)=Bs p l:=by
 induction hb with
 |zero l=>rw [Pg,hr];omega
 |@step l k U hb ih=>
  have hp:=D9 l
  have hd:=gu (r:=r) hv AC hm (.step U hb)
  have hne':tr l ((AL l).2+k) r≠[]:=λe=>by
   have:=congrArg List.length e
   rw [Zv hm] at this;simp_all
  cases hc:p (AL l) with
  |false=>rw [EU hc,EU kw]
  |true=>
   rw [CA U hc] at h |-
   rw [CA hne' kw,hd.1,Jv AC hm,show (AL l).2+k - (AL l).2=k by omega,ih (hv.rune U).2 (by grind) AC]
theorem mD (U:uh r):r=[]\/(r≠[]/\(((AL r).1:Nat):Int)=32)\/(r≠[]/\(((AL r).1:Nat):Int)=10):=by
 rcases U with h|h|h
 .exact .inl (nG h)
 .exact .inr (.inl ⟨λe=>by rw [e] at h;exact absurd h Do,by rw [(EZ AC AC).2,h]⟩)
 .exact .inr (.inr ⟨λe=>by rw [e] at h;exact absurd h Do,by rw [(EZ AC AC).2,h]⟩)
theorem kJ {p:Int->Bool} (U:uh r) (h1:p 32=false) (h2:p 10=false):BW p r=0:=by
 rcases mD U with rfl|⟨_,h⟩|⟨_,h⟩
 .exact SB p
 .exact QP kw
 .exact QP kw
theorem Bd.sub {i j:Nat} (h:Bd l i) (k:Bd l j) (hij:i<=j):Bd (l.drop i) (j - i):=by
 induction h generalizing j with
 |zero l=>exact k
 |@step l i hne h ih=>
  cases k with
  |zero=>simp_all
  |@step _ U _ k=>
   rw [show (AL l).2+U - ((AL l).2+i)=U - i by omega,<-List.drop_drop]
   simp_all
theorem kv (s:List UInt8) (n:Nat) (k:Int):n<=(Gg s n k).2:=by
 fun_induction Gg s n k with
 |case1 n k hn hc U=>omega
 |case2 n k hn hc=>omega
 |case3 n k hn=>omega
theorem dA (h:(Bt l).1≠0):0<(Bt l).2:=by
 by_cases U:0<(Bt l).2
 .exact U
 .exfalso
  cases l with
  |nil=>exact h rfl
  |cons a r=>
   have hne:a::r≠[]:=GT
   have hp:=D9 (a::r)
   apply h
   unfold Bt at U |-
   split
   .simp_all
   .rename_i h6
    rw [if_neg h6] at U
    have key:∀p:Int->Bool,p (((AL (a::r)).1:Nat):Int)=true->0<BW p (a::r):=λp hp'=>by
     rw [dQ hne hp'];omega
    split
    .rename_i h5
     rw [if_pos h5] at U
     have:=key (λc=>AF c==5) (beq_iff_eq.2 h5)
     omega
    .rename_i h5
     rw [if_neg h5] at U
     split
     .rename_i h3
      rw [if_pos h3] at U
      have h3':AF (((AL (a::r)).1:Nat):Int)=3:=h3
      have:=key HP (by unfold HP;simp_all)
      unfold Lc at U;omega
     .rename_i h3
      rw [if_neg h3] at U
      split
      .rename_i h2
       rw [if_pos h2] at U
       have h2':AF (((AL (a::r)).1:Nat):Int)=2:=h2
       have:=key HP (by unfold HP;simp_all)
       unfold Lc at U;omega
      .rfl
def sO (k:Int) (t:List UInt8) (p:Int×Int):List V:=[.int .i64 k,.str t,.int .i64 p.1,.int .i64 p.2]
theorem kr {st:St} {o:List (List V)} {k a b:Int} (h:BU st0 st w1 (o.length*4) w2 n2) (hl:o.length<=1000000000)
 (kk:∀U st',BU st0 st' U ((o.length+1)*4) w2 n2->st'.box=st.box->K (.slice 4 (o++[sO k t (a,b)]) U) st'):Ah 4 40 o w1 [[.int .i64 k,.str t,.int .i64 a,.int .i64 b]] st K:=
 KL h rfl RK (by rw [List.length_singleton];unfold C9;omega) rfl GT (λU st' hr hb=>kk U st' hr hb)
end Go.Aw
namespace Go.Proofs.Z
open Go Go.Aw
section
variable {st:St} {R:AA->St->Prop}
attribute [local irreducible] Go.Aw.Ah
theorem pj {sp q:Nat} {k e0 Cu ends:Int} (hl:s.length<=100000000) (hsp:sp<=p) (hpq:p<=q) (hq:q<=s.length) (hln:1<=ln/\ln<=800000000) (hcol:1<=Cu/\Cu<=1000000000)
 (hg:0<=Dx/\Dx<=1000000000) (ht:Ag.length<=1000000000) (U:st0.box b=none) (hR:BU st0 st w1 (Ag.length*4) w2 n2) (hb:st.box b=some (OU s p sp ln Cu Ag notes w1 w2 Dx ends j))
 (h:∀w1' st',BU st0 st' w1' ((Ag.length+1)*4) w2 n2->st'.box b=some (OU s q q (Cr s p q (Cr s sp p (ln,Cu))).1 (Cr s p q (Cr s sp p (ln,Cu))).2 (Ag++[sO k (A1 s p q) (Cr s sp p (ln,Cu))]) notes w1' w2
   (if decide (¬k=15)|| !Lib.contains [123,125,59] (A1 s p q) then Dx+1 else Dx) (Cr s p q (Cr s sp p (ln,Cu))).1 true)->R (.ret (.Bz [])) st'):PC 63 [.ptr b 0,.agg [.int .i64 k,.int .i64 q,.int .i64 e0]] st R:=by
 have z1:=aZ (s:=s) (p:=(ln,Cu)) hsp AC hcol.1
 refine A5 Ae [] Tryz.func63 rfl Do rfl ?_
 refine Ak (An Ae ?_)
 repeat' ((conv=>whnf);first|exact Db|(refine Bv ?_;intros)|(refine Dc ?_ ?_ ?_;rotate_left)|(refine Bw ?_ ?_<;>intro _)|with_reducible refine WF ?_)
 refine Ak (An Ae ?_)
 repeat' ((conv=>whnf);first|exact Db|(refine Bv ?_;intros)|(refine Dc ?_ ?_ ?_;rotate_left)|(refine Bw ?_ ?_<;>intro _)|refine ph hl hsp AC AC AC hb ?_|refine Am hb ?_|with_reducible refine WF ?_)
 generalize Cr s sp p (ln,Cu)=pl1 at h z1 |-
 have z2:=aZ (s:=s) (p:=pl1) hpq hq z1.2.2.1
 dsimp only at z1 z2
 refine Ak (An Ae ?_)
 repeat' ((conv=>whnf);first|exact Db|(refine Bv ?_;intros)|(refine Dc ?_ ?_ ?_;rotate_left)|(refine Bw ?_ ?_<;>intro _)|refine T2 hpq hq ?_|refine Am (St.AM _ _ _) ?_|with_reducible refine WF ?_)
 refine Ak (An Ae ?_)
 repeat' ((conv=>whnf);first|refine Af [(0,true),(1,true),(2,true),(3,true),(4,true),(5,true),(6,true),(7,false),(8,true),(9,true),(10,false)] [] GE ?_|exact Db|(refine Bv ?_;intros)|(refine Dc ?_ ?_ ?_;rotate_left)|(refine Bw ?_ ?_<;>intro _)|refine Am (St.AM _ _ _) ?_|refine kr (hR.set U _) ht (λw1' st1 hr1 hb1=>?_)|refine Am ((congrFun hb1 b).trans (St.AM _ _ _)) ?_|with_reducible refine WF ?_)
 clear hR hb
 rcases hc:(decide (¬k=15)|| !Lib.contains [123,125,59] (A1 s p q)) with _|_
 all_goals rw [hc] at h
 .have hcc:∀{st:St} {R:AA->St->Prop},R (.ret (.bool false)) st->PC 137 [.agg [.int .i64 k,.str (A1 s p q),.int .i64 pl1.1,.int .i64 pl1.2]] st R:=λh=>US (by rw [hc];exact h)
  refine Ak (An Ae ?_)
  repeat' ((conv=>whnf);first|exact Db|(refine Bv ?_;intros)|(refine Dc ?_ ?_ ?_;rotate_left)|(refine Bw ?_ ?_<;>intro _)|refine hcc ?_|refine Am (St.AM _ _ _) ?_|with_reducible refine WF ?_)
  refine An Ae ?_
  repeat' ((conv=>whnf);first|exact Db|(refine Bv ?_;intros)|(refine Dc ?_ ?_ ?_;rotate_left)|(refine Bw ?_ ?_<;>intro _)|refine ph hl hpq hq AC AC (St.AM _ _ _) ?_|refine Am (St.AM _ _ _) ?_|with_reducible refine WF ?_)
  all_goals exact fin (h w1' _ ((((hr1.set U _).set U _).set U _).set U _) (St.AM _ _ _)) rfl
 .have hcc:∀{st:St} {R:AA->St->Prop},R (.ret (.bool true)) st->PC 137 [.agg [.int .i64 k,.str (A1 s p q),.int .i64 pl1.1,.int .i64 pl1.2]] st R:=λh=>US (by rw [hc];exact h)
  refine Ak (An Ae ?_)
  repeat' ((conv=>whnf);first|exact Db|(refine Bv ?_;intros)|(refine Dc ?_ ?_ ?_;rotate_left)|(refine Bw ?_ ?_<;>intro _)|refine hcc ?_|refine Am (St.AM _ _ _) ?_|with_reducible refine WF ?_)
  refine An Ae ?_
  repeat' ((conv=>whnf);first|exact Db|(refine Bv ?_;intros)|(refine Dc ?_ ?_ ?_;rotate_left)|(refine Bw ?_ ?_<;>intro _)|refine ph hl hpq hq AC AC (St.AM _ _ _) ?_|refine Am (St.AM _ _ _) ?_|with_reducible refine WF ?_)
  all_goals exact fin (h w1' _ (((((hr1.set U _).set U _).set U _).set U _).set U _) (St.AM _ _ _)) rfl
end
structure Nt where
 text:List UInt8
 Dx:Int
 wh:Int
 line:Int
 Cu:Int
def Nt.cells (n:Nt):List V:=[.str n.text,.int .i64 n.Dx,.int .i64 n.wh,.int .i64 n.line,.int .i64 n.Cu]
def H3 (l:List Nt):List (List V):=l.map Nt.cells
structure Lx where
 Ag:List Tk
 notes:List Nt
 Dx:Int
 ends:Int
 j:Bool
def tI:Lx:=⟨[],[],0,0,false⟩
def cntF (k:Int) (t:List UInt8):Bool:=decide (¬k=15)|| !Lib.contains [123,125,59] t
def LN (s:List UInt8) (p q:Nat) (k:Int) (x:Lx):Lx:=
 ⟨x.Ag++[⟨k,A1 s p q,(C2 s p).1,(C2 s p).2⟩],x.notes,if cntF k (A1 s p q) then x.Dx+1 else x.Dx,(C2 s q).1,true⟩
def DS (s:List UInt8) (p:Nat):Nat:=p+BW (λc=>AF c==1) (s.drop p)
theorem IH (h:p<=s.length):p<=DS s p/\DS s p<=s.length:=by
 have:=FA (λc=>AF c==1) (s.drop p)
 rw [List.length_drop] at this
 unfold DS;omega
def th (s:List UInt8) (p q:Nat) (x:Lx):Bool:=x.j&&decide (x.ends=(C2 s p).1)&&decide ((C2 s q).1=(C2 s p).1)
def Yv (s:List UInt8) (p q:Nat):Bool:=decide (DS s q<s.length)&&decide ((C2 s (DS s q)).1=(C2 s p).1)
def Sl (s:List UInt8) (p q:Nat) (x:Lx):Lx:=
 ⟨x.Ag,x.notes++[⟨A1 s p q,x.Dx,if th s p q x then (if Yv s p q then 1 else 2) else 3,(C2 s p).1,(C2 s p).2⟩],x.Dx,(C2 s q).1,th s p q x&&Yv s p q⟩
def GF (s:List UInt8) (p:Nat) (x:Lx):Sum (Int×Int) Lx:=
 if hp:p<s.length then
  if (CE s p).2≠0 then .inl ((p:Nat),(CE s p).2)
  else if 0<(CE s p).1 then
   (if U:p<(CE s p).1.toNat then GF s (DS s (CE s p).1.toNat) (Sl s p (CE s p).1.toNat x) else .inr x)
  else if (Cj s p).2.2≠0 then .inl ((Cj s p).2.1,(Cj s p).2.2)
  else (if U:p<(Cj s p).2.1.toNat then GF s (DS s (Cj s p).2.1.toNat) (LN s p (Cj s p).2.1.toNat (Cj s p).1 x) else .inr x)
 else .inr x
termination_by s.length - p
decreasing_by
 all_goals unfold DS;omega
def EO (s:List UInt8):Sum (Int×Int) Lx:=
 if 16777216<s.length then .inl (0,3)
 else if (M8 s).2≠0 then .inl (M8 s)
 else if 0<=Yu (λc=>AF (c:Nat)==0) s then .inl (Yu (λc=>AF (c:Nat)==0) s,70)
 else GF s (DS s 0) tI
theorem gi (h:(M8 s).2=0):Vd s:=by
 unfold M8 at h
 split at h
 .exact absurd h (show ¬(10:Int)=0 by decide)
 .have:=MN Dh s
  unfold Vd;omega
end Go.Proofs.Z
namespace Go.Aw
open Go
theorem BF.le (h:BF l k):k<=l.length:=by
 induction h with
 |zero l=>omega
 |step U h ih=>have:=FC U;grind
theorem BF.blank (hv:Vd l):BF l (BW (λc=>AF c==1) l):=by
 refine Bd.cut (Bd.span _ l) ?_
 rintro ⟨h0,_,U⟩
 have U:AY (l.drop (BW (λc=>AF c==1) l))=10:=U
 have hlt:=Ch (l:=l) (k:=BW (λc=>AF c==1) l) AC
 have:=QQ (λc=>AF c==1) l hlt
 rw [(EZ AC AC).2,U] at this
 exact absurd this Do
theorem js (e:(CE s p).2=0) (U:0<(CE s p).1):∃n:Nat,0<n/\DF (s.drop p)=(n:Nat)/\(CE s p).1=(p+n:Nat):=by
 unfold CE at e U |-
 split
 .simp_all
 .rename_i h
  rw [if_neg h] at e U
  split
  .simp_all
  .rename_i h1
   exact ⟨(DF (s.drop p)).toNat,AC,AC,AC⟩
theorem VQ (hv:Vd s) (h:BF s p) (e:(CE s p).2=0) (U:0<(CE s p).1):∃q,(CE s p).1=(q:Nat)/\p<q/\q<=s.length/\BF s q:=by
 obtain ⟨n,h1,h2,h3⟩:=js e U
 have hc:=BF.add h (BF.note (h.bd.vd hv) h2)
 exact ⟨p+n,h3,AC,hc.le,hc⟩
theorem oA (h:(D6 l).1≠0):0<(D6 l).2:=by
 unfold D6 at h |-
 grind
theorem lV (h:(FE l).1≠0):0<(FE l).2:=by
 have U:=kv l (Bt l).2 (Bt l).1
 by_cases hp:(Bt l).1=0
 .unfold FE at h
  rw [WI (λx=>by omega)] at h
  omega
 .have:=dA hp
  unfold FE;omega
theorem Vx (hv:Vd s) (h:BF s p) (e:(Cj s p).2.2=0):(Cj s p).1≠0/\∃q,(Cj s p).2.1=(q:Nat)/\p<q/\q<=s.length/\BF s q:=by
 have hv':=h.bd.vd hv
 unfold Cj at e |-
 split
 .rename_i U
  refine ⟨U,p+(D6 (s.drop p)).2,?_⟩
  have hn:(D6 (s.drop p)).1≠0:=λx=>by
   unfold Mx at U;simp_all
  have hc:=BF.add h (BF.num (s.drop p))
  have:=oA hn
  refine ⟨?_,AC,hc.le,hc⟩
  unfold Mx;simp_all
 .rename_i U
  rw [if_neg U] at e
  split
  .rename_i h2
   rw [if_pos h2] at e
   split
   .simp_all
   .rename_i h3
    refine ⟨h3,p+(FE (s.drop p)).2,?_⟩
    have hn:(FE (s.drop p)).1≠0:=λx=>by
     unfold FF at h3;simp_all
    have hc:=BF.add h (BF.word (s.drop p))
    have:=lV hn
    refine ⟨?_,AC,hc.le,hc⟩
    unfold FF;simp_all
  .rename_i h2
   rw [if_neg h2] at e
   have hk:(Cn s p).1≠0:=λx=>h2 ⟨x,e⟩
   obtain ⟨n,e1,e2,e3⟩:=BF.quote hv' hk
   have hc:=BF.add h e3
   exact ⟨hk,p+n,e1,AC,hc.le,hc⟩
theorem BF.my (U:Vd s) (h:BF s p):BF s (Go.Proofs.Z.DS s p):=BF.add h (BF.blank (h.bd.vd U))
def dj (a b:Int×Int):Prop:=a.1<b.1\/(a.1=b.1/\a.2<b.2)
theorem dj.trans {a b c:Int×Int} (h:dj a b) (k:dj b c):dj a c:=by unfold dj at *;omega
theorem o8 {p:Int×Int} (h:1<=p.2):dj p (EE l p.1,FB l p.2):=by
 unfold dj EE FB Xm
 omega
theorem pN (h:BF l k) (p:Int×Int) (hp:1<=p.2):(k=0/\BQ l k p=p)\/(0<k/\dj p (BQ l k p)):=by
 induction h generalizing p with
 |zero l=>exact .inl ⟨rfl,E6⟩
 |@step l j U h ih=>
  have h1:=FC U
  have h2:=o8 (l:=l) hp
  refine .inr ⟨AC,?_⟩
  rw [Ek U AC,show AX l+j - AX l=j by omega]
  rcases ih (EE l p.1,FB l p.2) (Pb l hp).1 with ⟨_,e⟩|⟨_,e⟩
  .simp_all
  .exact h2.trans e
theorem BF.sub {i j:Nat} (h:BF l i) (k:BF l j) (hij:i<=j):BF (l.drop i) (j - i):=by
 induction h generalizing j with
 |zero l=>exact k
 |@step l i hne h ih=>
  cases k with
  |zero=>simp_all
  |@step _ U _ k=>
   rw [show AX l+U - (AX l+i)=U - i by omega,<-List.drop_drop]
   simp_all
theorem M5:1<=(C2 s p).1/\(C2 s p).1<=1+s.length/\1<=(C2 s p).2/\(C2 s p).2<=1+8*s.length:=by
 have:=UA _ s p (1,1) (Nat.le_refl _) Do
 unfold C2
 omega
theorem fD {q:Nat} (h:BF s p) (k:BF s q) (U:p<q):dj (C2 s p) (C2 s q):=by
 have c:=h.sub k AC
 have e:C2 s q=BQ (s.drop p) (q - p) (C2 s p):=by
  unfold C2
  rw [<-XF h,show p+(q - p)=q by omega]
 rw [e]
 rcases pN c (C2 s p) M5.2.2.1 with ⟨x,_⟩|⟨_,x⟩
 .omega
 omega
theorem Ns {a:Nat} (hv:Vd s) (U:BF s a) (hb:BF s b) (h:a<=b):Cr s a b (C2 s a)=C2 s b:=jH hv U (U.sub hb h) h hb.le
def u4 (t:List UInt8) (Dx wh:Int) (p:Int×Int):List V:=[.str t,.int .i64 Dx,.int .i64 wh,.int .i64 p.1,.int .i64 p.2]
theorem Nx {st:St} {o:List (List V)} {g k a b:Int} (h:BU st0 st w1 n1 w2 (o.length*5)) (hl:o.length<=1000000000)
 (kk:∀U st',BU st0 st' w1 n1 U ((o.length+1)*5)->st'.box=st.box->K (.slice 5 (o++[u4 t g k (a,b)]) U) st'):Ah 5 48 o w2 [[.str t,.int .i64 g,.int .i64 k,.int .i64 a,.int .i64 b]] st K:=
 KL h.swap rfl RK (by rw [List.length_singleton];unfold C9;omega) rfl GT (λw1' st' hr hb=>kk w1' st' hr.swap hb)
end Go.Aw
namespace Go.Proofs.Z
open Go Go.Aw
section
variable {st:St} {R:AA->St->Prop}
attribute [local irreducible] Go.Aw.Ah
theorem bQ {sp q:Nat} {ends:Int} (hl:s.length<=100000000) (hv:Vd s) (c1:BF s sp) (c2:BF s q) (U:sp<=q)
 (hb:st.box b=some (OU s p sp (C2 s sp).1 (C2 s sp).2 Ag notes w1 w2 Dx ends j))
 (h:R (.ret (.Bz [.int .i64 (C2 s q).1,.int .i64 (C2 s q).2])) (st.Aa b (OU s p q (C2 s q).1 (C2 s q).2 Ag notes w1 w2 Dx ends j))):PC 133 [.ptr b 0,.int .i64 q] st R:=by
 have e:Cr s sp q ((C2 s sp).1,(C2 s sp).2)=C2 s q:=Ns hv c1 c2 U
 have hc:=M5 (s:=s) (p:=sp)
 refine ph hl U c2.le AC AC hb ?_
 rw [e];exact h
theorem lF {sp q:Nat} {k e0 ends:Int} (hl:s.length<=50000000) (hv:Vd s) (c1:BF s sp) (c2:BF s p) (c3:BF s q) (hsp:sp<=p) (hpq:p<=q)
 (hg:0<=Dx/\Dx<=1000000000) (ht:Ag.length<=1000000000) (hb0:st0.box b=none) (hR:BU st0 st w1 (Ag.length*4) w2 n2) (hb:st.box b=some (OU s p sp (C2 s sp).1 (C2 s sp).2 Ag notes w1 w2 Dx ends j))
 (h:∀U st',BU st0 st' U ((Ag.length+1)*4) w2 n2->st'.box b=some (OU s q q (C2 s q).1 (C2 s q).2 (Ag++[sO k (A1 s p q) (C2 s p)]) notes U w2
   (if cntF k (A1 s p q) then Dx+1 else Dx) (C2 s q).1 true)->R (.ret (.Bz [])) st'):PC 63 [.ptr b 0,.agg [.int .i64 k,.int .i64 q,.int .i64 e0]] st R:=by
 have e1:Cr s sp p ((C2 s sp).1,(C2 s sp).2)=C2 s p:=Ns hv c1 c2 hsp
 have e2:Cr s p q (C2 s p)=C2 s q:=Ns hv c2 c3 hpq
 have hc:=M5 (s:=s) (p:=sp)
 refine pj AC hsp hpq c3.le AC AC hg ht hb0 hR hb (λU st' hr hb'=>h U st' hr ?_)
 rw [e1,e2] at hb';exact hb'
theorem sf {sp q:Nat} {ends:Int} (hl:s.length<=50000000) (hv:Vd s) (c1:BF s sp) (c2:BF s p) (c3:BF s q) (hsp:sp<=p) (hpq:p<=q)
 (hg:0<=Dx/\Dx<=1000000000) (ht:notes.length<=1000000000) (U:st0.box b=none) (hR:BU st0 st w1 n1 w2 (notes.length*5)) (hb:st.box b=some (OU s p sp (C2 s sp).1 (C2 s sp).2 Ag notes w1 w2 Dx ends j))
 (h:∀w2' st' sp',BF s sp'->sp'<=DS s q->BU st0 st' w1 n1 w2' ((notes.length+1)*5)->
   st'.box b=some (OU s (DS s q) sp' (C2 s sp').1 (C2 s sp').2 Ag (notes++[u4 (A1 s p q) Dx (if j&&decide (ends=(C2 s p).1)&&decide ((C2 s q).1=(C2 s p).1) then (if Yv s p q then 1 else 2) else 3) (C2 s p)]) w1 w2' Dx (C2 s q).1
    (j&&decide (ends=(C2 s p).1)&&decide ((C2 s q).1=(C2 s p).1)&&Yv s p q))->R (.ret (.Bz [])) st'):PC 61 [.ptr b 0,.int .i64 q] st R:=by
 have c4:=c3.my hv
 have hq:=c3.le
 have hr:=IH hq
 have z1:=M5 (s:=s) (p:=p)
 have z2:=M5 (s:=s) (p:=q)
 have z3:=M5 (s:=s) (p:=DS s q)
 refine A5 Ae [] Tryz.func61 rfl Do rfl ?_
 refine Ak (An Ae ?_)
 repeat' ((conv=>whnf);first|exact Db|(refine Bv ?_;intros)|(refine Dc ?_ ?_ ?_;rotate_left)|(refine Bw ?_ ?_<;>intro _)|refine bQ AC hv c1 c2 hsp hb ?_|refine Am hb ?_|with_reducible refine WF ?_)
 refine Ak (An Ae ?_)
 repeat' ((conv=>whnf);first|exact Db|(refine Bv ?_;intros)|(refine Dc ?_ ?_ ?_;rotate_left)|(refine Bw ?_ ?_<;>intro _)|refine T2 hpq hq ?_|refine Am (St.AM _ _ _) ?_|with_reducible refine WF ?_)
 refine Ak (An Ae ?_)
 repeat' ((conv=>whnf);first|exact Db|(refine Bv ?_;intros)|(refine Dc ?_ ?_ ?_;rotate_left)|(refine Bw ?_ ?_<;>intro _)|refine bQ AC hv c2 c3 hpq (St.AM _ _ _) ?_|refine Am (St.AM _ _ _) ?_|with_reducible refine WF ?_)
 have hbl:∀{st:St} {R:AA->St->Prop} {sp:Nat} {Dx ends:Int} {j:Bool} {notes:List (List V)} {w2:AJ},st.box b=some (OU s q sp (C2 s sp).1 (C2 s sp).2 Ag notes w1 w2 Dx ends j)->
  R (.ret (.Bz [])) (st.Aa b (OU s (DS s q) sp (C2 s sp).1 (C2 s sp).2 Ag notes w1 w2 Dx ends j))->PC 59 [.ptr b 0] st R:=λhb h=>L5 AC hq hb h
 have hcase:(j=false\/(j=true/\¬ends=(C2 s p).1)\/(j=true/\ends=(C2 s p).1/\¬(C2 s q).1=(C2 s p).1))\/(j=true/\ends=(C2 s p).1/\(C2 s q).1=(C2 s p).1):=by
  cases j
  .exact .inl (.inl rfl)
  .by_cases e1:ends=(C2 s p).1
   .by_cases e2:(C2 s q).1=(C2 s p).1
    .exact .inr ⟨rfl,e1,e2⟩
    .exact .inl (.inr (.inr ⟨rfl,e1,e2⟩))
   .exact .inl (.inr (.inl ⟨rfl,e1⟩))
 rcases hcase with hc|⟨rfl,he1,he2⟩
 .have e:(j&&decide (ends=(C2 s p).1)&&decide ((C2 s q).1=(C2 s p).1))=false:=by
   rcases hc with rfl|⟨rfl,e1⟩|⟨rfl,e1,e2⟩<;>simp [*]
  rw [e] at h
  rcases hc with rfl|⟨rfl,e1⟩|⟨rfl,e1,e2⟩
  all_goals refine Ak (An Ae ?_)
  repeat' ((conv=>whnf);first|exact Db|(refine Bv ?_;intros)|(refine Dc ?_ ?_ ?_;rotate_left)|(refine Bw ?_ ?_<;>intro _)|refine Am (St.AM _ _ _) ?_|with_reducible refine WF ?_)
  all_goals refine Ak (An Ae ?_)
  repeat' ((conv=>whnf);first|exact Db|(refine Bv ?_;intros)|(refine Dc ?_ ?_ ?_;rotate_left)|(refine Bw ?_ ?_<;>intro _)|refine Am (St.AM _ _ _) ?_|with_reducible refine WF ?_)
  all_goals refine Ak (An Ae ?_)
  repeat' ((conv=>whnf);first|exact Db|(refine Bv ?_;intros)|(refine Dc ?_ ?_ ?_;rotate_left)|(refine Bw ?_ ?_<;>intro _)|refine hbl (St.AM _ _ _) ?_|with_reducible refine WF ?_)
  all_goals refine Ak (An Ae ?_)
  repeat' ((conv=>whnf);first|exact Db|(refine Bv ?_;intros)|(refine Dc ?_ ?_ ?_;rotate_left)|(refine Bw ?_ ?_<;>intro _)|refine Am (St.AM _ _ _) ?_|with_reducible refine WF ?_)
  all_goals refine Ak (An Ae ?_)
  repeat' ((conv=>whnf);first|exact Db|(refine Bv ?_;intros)|(refine Dc ?_ ?_ ?_;rotate_left)|(refine Bw ?_ ?_<;>intro _)|with_reducible refine WF ?_)
  all_goals refine An Ae ?_
  repeat' ((conv=>whnf);first|refine Af [(0,true),(1,true),(2,true),(3,true),(4,true),(5,true),(6,true),(7,false),(8,true),(9,true),(10,false)] [] GE ?_|exact Db|(refine Bv ?_;intros)|(refine Dc ?_ ?_ ?_;rotate_left)|(refine Bw ?_ ?_<;>intro _)|refine Am (St.AM _ _ _) ?_|refine Nx (((((hR.set U _).set U _).set U _).set U _).set U _) ht (λw1' st1 hr1 hb1=>?_)|refine Am ((congrFun hb1 b).trans (St.AM _ _ _)) ?_|with_reducible refine WF ?_)
  all_goals exact fin (h w1' _ q c3 hr.1 (hr1.set U _) (St.AM _ _ _)) rfl
 .have e:(true&&decide (ends=(C2 s p).1)&&decide ((C2 s q).1=(C2 s p).1))=true:=by simp [*]
  rw [e] at h
  refine Ak (An Ae ?_)
  repeat' ((conv=>whnf);first|exact Db|(refine Bv ?_;intros)|(refine Dc ?_ ?_ ?_;rotate_left)|(refine Bw ?_ ?_<;>intro _)|refine Am (St.AM _ _ _) ?_|with_reducible refine WF ?_)
  refine Ak (An Ae ?_)
  repeat' ((conv=>whnf);first|exact Db|(refine Bv ?_;intros)|(refine Dc ?_ ?_ ?_;rotate_left)|(refine Bw ?_ ?_<;>intro _)|refine Am (St.AM _ _ _) ?_|with_reducible refine WF ?_)
  refine Ak (An Ae ?_)
  repeat' ((conv=>whnf);first|exact Db|(refine Bv ?_;intros)|(refine Dc ?_ ?_ ?_;rotate_left)|(refine Bw ?_ ?_<;>intro _)|refine hbl (St.AM _ _ _) ?_|with_reducible refine WF ?_)
  refine Ak (An Ae ?_)
  repeat' ((conv=>whnf);first|exact Db|(refine Bv ?_;intros)|(refine Dc ?_ ?_ ?_;rotate_left)|(refine Bw ?_ ?_<;>intro _)|refine Am (St.AM _ _ _) ?_|with_reducible refine WF ?_)
  rcases hin:Yv s p q with _|_
  all_goals rw [hin] at h
  .have hno:¬DS s q<s.length\/(DS s q<s.length/\¬(C2 s (DS s q)).1=(C2 s p).1):=by
    by_cases h1:DS s q<s.length
    .exact .inr ⟨h1,λx=>by unfold Yv at hin;simp [h1,x] at hin⟩
    .exact .inl h1
   rcases hno with hno|⟨hy,hno⟩
   all_goals refine Ak (An Ae ?_)
   repeat' ((conv=>whnf);first|exact Db|(refine Bv ?_;intros)|(refine Dc ?_ ?_ ?_;rotate_left)|(refine Bw ?_ ?_<;>intro _)|refine bQ AC hv c3 c4 hr.1 (St.AM _ _ _) ?_|refine Am (St.AM _ _ _) ?_|refine WJ (λ_=>?_)|with_reducible refine WF ?_)
   all_goals refine An Ae ?_
   repeat' ((conv=>whnf);first|refine Af [(0,true),(1,true),(2,true),(3,true),(4,true),(5,true),(6,true),(7,false),(8,true),(9,true),(10,false)] [] GE ?_|exact Db|(refine Bv ?_;intros)|(refine Dc ?_ ?_ ?_;rotate_left)|(refine Bw ?_ ?_<;>intro _)|refine Am (St.AM _ _ _) ?_|refine Nx ((((((hR.set U _).set U _).set U _).set U _).set U _).set U _) ht (λw1' st1 hr1 hb1=>?_)|refine Am ((congrFun hb1 b).trans (St.AM _ _ _)) ?_|with_reducible refine WF ?_)
   all_goals exact fin (h w1' _ (DS s q) c4 (Nat.le_refl _) (hr1.set U _) (St.AM _ _ _)) rfl
  .have hy:DS s q<s.length/\(C2 s (DS s q)).1=(C2 s p).1:=by unfold Yv at hin;simpa using hin
   obtain ⟨hy1,hy2⟩:=hy
   refine Ak (An Ae ?_)
   repeat' ((conv=>whnf);first|exact Db|(refine Bv ?_;intros)|(refine Dc ?_ ?_ ?_;rotate_left)|(refine Bw ?_ ?_<;>intro _)|refine bQ AC hv c3 c4 hr.1 (St.AM _ _ _) ?_|refine Am (St.AM _ _ _) ?_|refine WJ (λ_=>?_)|with_reducible refine WF ?_)
   refine An Ae ?_
   repeat' ((conv=>whnf);first|refine Af [(0,true),(1,true),(2,true),(3,true),(4,true),(5,true),(6,true),(7,false),(8,true),(9,true),(10,false)] [] GE ?_|exact Db|(refine Bv ?_;intros)|(refine Dc ?_ ?_ ?_;rotate_left)|(refine Bw ?_ ?_<;>intro _)|refine Am (St.AM _ _ _) ?_|refine Nx (((((((hR.set U _).set U _).set U _).set U _).set U _).set U _).set U _) ht (λw1' st1 hr1 hb1=>?_)|refine Am ((congrFun hb1 b).trans (St.AM _ _ _)) ?_|with_reducible refine WF ?_)
   all_goals exact fin (h w1' _ (DS s q) c4 (Nat.le_refl _) (hr1.set U _) (St.AM _ _ _)) rfl
end
end Go.Proofs.Z
namespace Go.Aw
open Go
theorem Bd.word {w:List UInt8} (h:∀b ∈ w,b.toNat<128):Bd (w++t) w.length:=by
 induction w with
 |nil=>exact .zero _
 |cons a w U=>
  have e:(AL (a::(w++t))).2=1:=by rw [Fk (h a List.mem_cons_self)]
  have:=Bd.step (l:=a::(w++t)) (k:=w.length) GT kw
  grind
theorem YU (l:List UInt8):0<Hl l↔(AY l=13\/AY l=10\/AY l=12):=by
 rcases Fb l with ⟨e,h⟩|⟨e,h,_⟩|⟨e,h,_⟩
 .omega
 .omega
 omega
theorem oq (hm:m<=l.length) (h:Cf d l=some n) (hn:n<=m):Cf d (tr l m r)=some n:=by
 fun_induction Cf d l generalizing m n with
 |case1=>cases h
 |case2 d a l hc ih=>
  obtain ⟨k,hk,rfl⟩:=Option.map_eq_some_iff.1 h
  have h2:=Hb _ _ _ hk
  obtain ⟨m,rfl⟩:∃j,m=j+1:=⟨m - 1,AC⟩
  have hl:m<=l.length:=by simpa using hm
  show Cf d (a::tr l m r)=_
  rw [Cf,if_pos ⟨hc.1,by rw [Oo AC hl];omega⟩,Jv AC hl,ih (by grind) hk AC]
  rfl
 |case3 d a l hc hk hd=>
  injection h with h
  subst h
  obtain ⟨m,rfl⟩:∃j,m=j+1:=⟨m - 1,AC⟩
  have hl:m<=l.length:=by simpa using hm
  show Cf d (a::tr l m r)=_
  rw [Cf,if_neg AC,if_pos ⟨hk.1,by rw [Oo AC hl];omega⟩,if_pos hd]
 |case4 d a l hc hk hd ih=>
  obtain ⟨k,U,rfl⟩:=Option.map_eq_some_iff.1 h
  have h2:=Hb _ _ _ U
  obtain ⟨m,rfl⟩:∃j,m=j+1:=⟨m - 1,AC⟩
  have hl:m<=l.length:=by simpa using hm
  show Cf d (a::tr l m r)=_
  rw [Cf,if_neg AC,if_pos ⟨hk.1,by rw [Oo AC hl];omega⟩,if_neg hd,Jv AC hl,ih (by grind) U AC]
  rfl
 |case5 d a l hc hk ih=>
  obtain ⟨k,U,rfl⟩:=Option.map_eq_some_iff.1 h
  have h2:=Hb _ _ _ U
  obtain ⟨m,rfl⟩:∃j,m=j+1:=⟨m - 1,AC⟩
  have hl:m<=l.length:=by simpa using hm
  show Cf d (a::tr l m r)=_
  rw [Cf,if_neg (by rw [Oo AC hl];exact hc),if_neg (by rw [Oo AC hl];exact hk),ih hl U AC]
  rfl
def qM (r:List UInt8):Prop:=AY r= -1\/AY r=10
theorem qM.vk (h:qM r):uh r:=by unfold qM at h;unfold uh;omega
theorem rp (hr:qM r) (U:m<=l.length) (h:Du l<=m):Du (tr l m r)=Du l:=by
 have e0:Du r=0:=by
  cases r with
  |nil=>rfl
  |cons a r=>
   unfold qM at hr
   have:((a.toNat:Nat):Int)=AY (a::r):=rfl
   rw [Du,if_pos ((YU _).2 AC)]
 induction l generalizing m with
 |nil=>
  have:m=0:=by simpa using U
  subst this
  rw [Pg,e0];rfl
 |cons a l ih=>
  cases m with
  |zero=>rw [Pg,e0];omega
  |succ m=>
   have hl:m<=l.length:=by simpa using U
   show Du (a::tr l m r)=_
   have hp:0<Hl (a::tr l m r)↔0<Hl (a::l):=by rw [YU,YU];exact Iff.rfl
   unfold Du at h |-
   grind
theorem dH (hr:qM r) (hv:Vd l) (hb:Bd l m) (U:m<=l.length) (h:0<EI l) (hn:EI l<=m):EI (tr l m r)=EI l:=by
 unfold EI at h hn |-
 dsimp only at h hn |-
 split at h
 .rename_i hc
  rw [if_pos hc] at hn |-
  have e:BW (λc=>AF c==5) (tr l m r)=BW (λc=>AF c==5) l:=oS hv hb U (kJ (p:=λc=>AF c==5) hr.vk Do Do) (show Bs _ l<=m by show BW (λc=>AF c==5) l<=m;omega)
  rw [e,pt AC U,if_pos hc,Jv AC U,rp hr (by grind) AC]
 .omega
theorem oz (hr:qM r) (hv:Vd l) (hb:Bd l m) (U:m<=l.length) (h0:0<n) (h:DF l=n) (hn:n<=m):DF (tr l m r)=n:=by
 unfold DF at h |-
 split at h
 .rename_i hc
  cases ht:Cf 1 (l.drop 2) with
  |none=>rw [ht] at h;simp only [EC] at h;omega
  |some k=>
   rw [ht] at h
   simp only [EC] at h
   have h2:=Hb _ _ _ ht
   rw [Oo AC U,lK AC U,if_pos hc,Jv AC U,oq (by grind) ht AC]
   simp only [EC];omega
 .rename_i hc
  split at h
  .rename_i hd
   have h:EI l=n:=AC
   rw [Oo AC U,if_neg,if_pos hd,dH hr hv hb U AC AC,h]
   omega
  .omega
theorem dt (U:Vd l) (h0:0<n) (h:DF l=n):DF (l.take n)=(l.take n).length/\(l.take n).length=n:=by
 have hle:=VP l
 have hc:=BF.note U h
 have e:=oz (r:=[]) (.inl rfl) U hc.bd AC h0 h (Nat.le_refl _)
 unfold tr at e
 simp_all
end Go.Aw
namespace Go.Proofs.Z
open Go Go.Aw
def uN (t:Tk):Int×Int:=(t.line,t.Cu)
def uH (n:Nt):Int×Int:=(n.line,n.Cu)
def pV (t:List UInt8):Prop:=t≠[]/\DF t=(t.length:Nat)
structure Ow (s:List UInt8) (p:Nat) (x:Lx):Prop where
 t:x.Ag.Pairwise λa b=>dj (uN a) (uN b)
 tp:∀a ∈ x.Ag,dj (uN a) (C2 s p)
 n:x.notes.Pairwise λa b=>dj (uH a) (uH b)/\a.Dx<=b.Dx
 np:∀a ∈ x.notes,dj (uH a) (C2 s p)/\0<=a.Dx/\a.Dx<=x.Dx/\(a.wh=1\/a.wh=2\/a.wh=3)/\pV a.text
 g:0<=x.Dx/\x.Dx<=x.Ag.length
theorem jF {a:Nat}:A1 s a b=(s.drop a).take (b - a):=by unfold A1;rw [List.drop_take]
theorem Ow.le {q:Nat} {x:Lx} (h:Ow s p x) (hp:BF s p) (hq:BF s q) (hpq:p<q):Ow s q x:=
 have l:=fD hp hq hpq
 ⟨h.t,λa U=>(h.tp a U).trans l,h.n,λa U=>⟨(h.np a U).1.trans l,(h.np a U).2⟩,h.g⟩
theorem Ow.tok {q:Nat} {k:Int} {x:Lx} (h:Ow s p x) (hp:BF s p) (hq:BF s q) (hpq:p<q):Ow s q (LN s p q k x):=by
 have h':=h.le hp hq hpq
 have hg:=h.g
 have hgg:x.Dx<=(LN s p q k x).Dx/\(LN s p q k x).Dx<=x.Dx+1:=by
  show x.Dx<=(if cntF k (A1 s p q) then x.Dx+1 else x.Dx)/\(if cntF k (A1 s p q) then x.Dx+1 else x.Dx)<=x.Dx+1
  split<;>omega
 refine ⟨?_,?_,h.n,λa U=>?_,?_⟩
 .refine List.pairwise_append.2 ⟨h.t,List.pairwise_singleton _ _,λa U b hb=>?_⟩
  rw [List.mem_singleton] at hb;subst hb
  exact h.tp a U
 .intro a U
  rcases List.mem_append.1 U with U|U
  .exact h'.tp a U
  .rw [List.mem_singleton] at U;subst U
   exact fD hp hq hpq
 .have:=h'.np a U
  grind
 .have:(LN s p q k x).Ag.length=x.Ag.length+1:=by simp [LN]
  omega
theorem Ow.note {q:Nat} {x:Lx} (hv:Vd s) (h:Ow s p x) (hp:BF s p) (hq:BF s q) (hpq:p<q) (hn:DF (s.drop p)=(q - p:Nat)):Ow s q (Sl s p q x):=by
 have h':=h.le hp hq hpq
 have hg:=h.g
 refine ⟨h.t,h'.tp,?_,?_,h.g⟩
 .refine List.pairwise_append.2 ⟨h.n,List.pairwise_singleton _ _,λa U b hb=>?_⟩
  rw [List.mem_singleton] at hb;subst hb
  exact ⟨(h.np a U).1,(h.np a U).2.2.1⟩
 .intro a U
  rcases List.mem_append.1 U with U|U
  .exact h'.np a U
  .rw [List.mem_singleton] at U;subst U
   refine ⟨fD hp hq hpq,hg.1,Int.le_refl _,?_,?_⟩
   .grind
   .show pV (A1 s p q)
    rw [jF]
    have e:=dt (hp.bd.vd hv) AC hn
    refine ⟨λe0=>?_,e.1⟩
    grind
theorem Ow.my {s:List UInt8} {p:Nat} {x:Lx} (U:Vd s) (h:Ow s p x) (hp:BF s p):Ow s (DS s p) x:=by
 by_cases e:p=DS s p
 .grind
 .exact h.le hp (hp.my U) (by have:=(IH hp.le).1;omega)
end Go.Proofs.Z
namespace Go.Aw
open Go
def q7 (l:List UInt8):Nat:=BW (λc=>AF c==1) l
def uo (l:List UInt8):List UInt8:=l.drop (q7 l)
def Cl (l:List UInt8):Prop:=Bs (λd=> !(AF (d.1:Nat)==0)) l=l.length
theorem XU {p:Nat×Nat->Bool} (hv:Vd l) (hb:Bd l k) (hk:k<=l.length) (h:Bs p l=l.length):Bs p (l.take k)=(l.take k).length/\Bs p (l.drop k)=(l.drop k).length:=by
 have e:l.take k=tr l k []:=by unfold tr;rw [List.append_nil]
 rw [e]
 induction hb with
 |zero l=>exact ⟨by rw [Pg,Ey];rfl,h⟩
 |@step l k U hb ih=>
  have hd:=gu (r:=[]) hv (by have:=D9 l;omega) hk (.step U hb)
  have hl:=Gw U
  have hp:=D9 l
  have hc:p (AL l)=true:=by
   cases hc:p (AL l) with
   |true=>rfl
   |false=>rw [EU hc] at h;omega
  have hne':tr l ((AL l).2+k) []≠[]:=λe=>by simp_all
  rw [CA U hc] at h
  have ih:=ih (hv.rune U).2 (by grind) (by grind) (by unfold tr;simp_all)
  rw [CA hne' kw,hd.1,Jv AC hk,show (AL l).2+k - (AL l).2=k by omega,ih.1]
  rw [List.drop_drop] at ih
  refine ⟨?_,ih.2⟩
  rw [Zv hk,Zv (by grind)]
  rfl
theorem Vd.take {l:List UInt8} {k:Nat} (U:Vd l) (hb:Bd l k) (hk:k<=l.length):Vd (l.take k):=(XU (p:=Dh) U hb hk U).1
theorem Cl.take {l:List UInt8} {k:Nat} (h:Cl l) (hv:Vd l) (hb:Bd l k) (U:k<=l.length):Cl (l.take k):=(XU hv hb U h).1
theorem Cl.drop {l:List UInt8} {k:Nat} (h:Cl l) (hv:Vd l) (hb:Bd l k) (U:k<=l.length):Cl (l.drop k):=(XU hv hb U h).2
theorem Cl.app (h:Cl l) (U:Vd l) (k:Cl t):Cl (l++t):=by
 unfold Cl at *
 rw [SA l t U,if_pos h,k,List.length_append]
theorem mo (l:List UInt8):q7 (uo l)=0:=by
 by_cases h:q7 l<l.length
 .have:=QQ (λc=>AF c==1) l h
  exact QP this
 .have:uo l=[]:=List.drop_eq_nil_iff.2 AC
  rw [this];exact SB _
theorem Vd.sp:Vd [32]:=by unfold Vd;rw [CA GT Do];rw [show (([32]:List UInt8).drop (AL [32]).2)=[] from by rfl,Ey,Fk Do];rfl
theorem Vd.nl:Vd [10]:=by unfold Vd;rw [CA GT Do];rw [show (([10]:List UInt8).drop (AL [10]).2)=[] from by rfl,Ey,Fk Do];rfl
theorem Cl.sp:Cl [32]:=by unfold Cl;rw [CA GT Do];rw [show (([32]:List UInt8).drop (AL [32]).2)=[] from by rfl,Ey,Fk Do];rfl
theorem Cl.nl:Cl [10]:=by unfold Cl;rw [CA GT Do];rw [show (([10]:List UInt8).drop (AL [10]).2)=[] from by rfl,Ey,Fk Do];rfl
end Go.Aw
namespace Go.Proofs.Z
open Go Go.Aw
def uE (l:List Tk):List (Int×List UInt8):=l.map λt=>(t.kind,t.text)
def RG (is:Option (List (Int×List UInt8))) (x:Lx) (r:Sum (Int×Int) Lx):Prop:=match is with
 |none=>∃e,r=.inl e
 |some is=>∃y,r=.inr y/\uE y.Ag=uE x.Ag++is.filter (λt=>t.1 !=0)/\y.notes.map (·.text)=x.notes.map (·.text)++(is.filter (λt=>t.1==0)).map (·.2)
theorem RG.tok {o:Option (List (Int×List UInt8))} {q:Nat} {k:Int} {x:Lx} {r:Sum (Int×Int) Lx} (h:RG o (LN s p q k x) r) (hk:k≠0) (ht:t=A1 s p q):RG (o.map ((k,t)::·)) x r:=by
 subst ht
 cases o with
 |none=>exact h
 |some is=>
  obtain ⟨y,h1,h2,h3⟩:=h
  refine ⟨y,h1,?_,?_⟩
  .have U:(((k,A1 s p q)::is).filter λt:Int×List UInt8=>t.1 !=0)=(k,A1 s p q)::is.filter λt=>t.1 !=0:=List.filter_cons_of_pos kw
   rw [U,h2]
   simp [uE,LN]
  .have U:(((k,A1 s p q)::is).filter λt:Int×List UInt8=>t.1==0)=is.filter λt=>t.1==0:=List.filter_cons_of_neg kw
   rw [U,h3];rfl
theorem RG.note {o:Option (List (Int×List UInt8))} {q:Nat} {x:Lx} {r:Sum (Int×Int) Lx} (h:RG o (Sl s p q x) r) (ht:t=A1 s p q):RG (o.map ((0,t)::·)) x r:=by
 subst ht
 cases o with
 |none=>exact h
 |some is=>
  obtain ⟨y,h1,h2,h3⟩:=h
  refine ⟨y,h1,?_,?_⟩
  .have U:(((0,A1 s p q)::is).filter λt:Int×List UInt8=>t.1 !=0)=is.filter λt=>t.1 !=0:=List.filter_cons_of_neg GT
   rw [U,h2];rfl
  .have U:(((0,A1 s p q)::is).filter λt:Int×List UInt8=>t.1==0)=(0,A1 s p q)::is.filter λt=>t.1==0:=List.filter_cons_of_pos GT
   rw [U,h3]
   simp [Sl]
def vi (s:List UInt8):Prop:=s.length<=16777216/\Vd s/\Cl s
theorem nX {y:Lx} (h:EO s=.inr y):vi s:=by
 unfold EO at h
 split at h
 .cases h
 .split at h
  .cases h
  .rename_i h1 h2
   split at h
   .cases h
   .rename_i U
    refine ⟨AC,gi AC,?_⟩
    unfold Yu at U
    have hle:=MN (λd=> !((λc:Nat=>AF (c:Nat)==0) d.1)) s
    split at U
    .omega
    .show Bs (λd=> !((λc:Nat=>AF (c:Nat)==0) d.1)) s=_
     omega
theorem iQ {x:Lx} (h:¬p<s.length):GF s p x=.inr x:=by rw [GF,dif_neg h]
theorem iP {x:Lx} (h:p<s.length) (U:(CE s p).2≠0):GF s p x=.inl ((p:Nat),(CE s p).2):=by rw [GF,dif_pos h,if_pos U]
theorem db {q:Nat} {x:Lx} (h:p<s.length) (U:(CE s p).2=0) (h2:(CE s p).1=(q:Nat)) (h3:p<q):GF s p x=GF s (DS s q) (Sl s p q x):=by
 rw [GF,dif_pos h,if_neg (λe=>e U),if_pos AC,h2,Int.toNat_natCast,dif_pos h3]
theorem iR {x:Lx} (h:p<s.length) (U:(CE s p).2=0) (h2:¬0<(CE s p).1) (h3:(Cj s p).2.2≠0):GF s p x=.inl ((Cj s p).2.1,(Cj s p).2.2):=by
 rw [GF,dif_pos h,if_neg (λe=>e U),if_neg h2,if_pos h3]
theorem iT {q:Nat} {x:Lx} (h:p<s.length) (U:(CE s p).2=0) (h2:¬0<(CE s p).1) (h3:(Cj s p).2.2=0) (h4:(Cj s p).2.1=(q:Nat)) (h5:p<q):GF s p x=GF s (DS s q) (LN s p q (Cj s p).1 x):=by
 rw [GF,dif_pos h,if_neg (λe=>e U),if_neg h2,if_neg (λe=>e h3),h4,Int.toNat_natCast,dif_pos h5]
structure LW where
 p:Nat
 sp:Nat
 x:Lx
 w1:AJ
 w2:AJ
 m:St
theorem eN (l:List Tk) (t:Tk):Az (l++[t])=Az l++[t.cells]:=by simp [Az]
theorem YV (l:List Nt) (t:Nt):H3 (l++[t])=H3 l++[t.cells]:=by simp [H3]
theorem Je (l:List Nt):(H3 l).length=l.length:=by simp [H3]
theorem mz (s:List UInt8) (p:Nat):DS s (DS s p)=DS s p:=by
 have h:=mo (s.drop p)
 have e:uo (s.drop p)=s.drop (DS s p):=by unfold uo;rw [List.drop_drop];rfl
 rw [e] at h
 exact Nat.add_eq_left.2 h
section
variable {st:St} {R:AA->St->Prop}
attribute [local irreducible] Go.Aw.Ah
theorem Vw (c:Nat) (hc:c<=1114111):PC 57 [.int .i32 (c:Int)] se λr _=>r=.ret (.bool (AF (c:Int)==0)):=by
 refine pB Tryz.func57 ?_
 repeat' ((conv=>whnf);first|(refine Bv ?_;intros)|(refine Bw ?_ ?_<;>intro _)|refine Ku ?_)
 all_goals first|exact At rfl (by simp [*])|(conv=>whnf;simp [*])
theorem iU (h1:∀i e,EO s=.inl (i,e)->R (.ret (.Bz [.slice 4 [] .full,.slice 5 [] .full,.int .i64 i,.int .i64 e])) st)
 (h1':∀i e st',st.le st'->EO s=.inl (i,e)->R (.ret (.Bz [.slice 4 [] .full,.slice 5 [] .full,.int .i64 i,.int .i64 e])) st')
 (h2:∀x w1 w2 st',EO s=.inr x->st.le st'->R (.ret (.Bz [.slice 4 (Az x.Ag) w1,.slice 5 (H3 x.notes) w2,.int .i64 0,.int .i64 0])) st'):PC 22 [.str s] st R:=by
 refine A5 Ae [30] Tryz.func22 rfl Do rfl ?_
 by_cases hl:16777216<s.length
 .have e:EO s=.inl (0,3):=by unfold EO;rw [if_pos hl]
  refine An Ae ?_
  repeat' ((conv=>whnf);first|exact Db|(refine Bv ?_;intros)|(refine Dc ?_ ?_ ?_;rotate_left)|(refine Bw ?_ ?_<;>intro _)|refine JP (λ_=>?_) ?_|refine WJ (λ_=>?_)|with_reducible refine WF ?_)
  exact fin (h1 _ _ e) rfl
 .by_cases hk:(M8 s).2=0
  .by_cases hx:0<=Yu (λc=>AF (c:Nat)==0) s
   .have e:EO s=.inl (Yu (λc=>AF (c:Nat)==0) s,70):=by unfold EO;rw [if_neg hl,if_neg (λx=>x hk),if_pos hx]
    refine An Ae ?_
    repeat' ((conv=>whnf);first|exact Db|(refine Bv ?_;intros)|(refine Dc ?_ ?_ ?_;rotate_left)|(refine Bw ?_ ?_<;>intro _)|refine JP (λ_=>?_) ?_|refine WJ (λ_=>?_)|refine S8 ?_|refine ar (p:=λc=>AF (c:Nat)==0) Vw ?_|with_reducible refine WF ?_)
    exact fin (h1 _ _ e) rfl
   .have e:EO s=GF s (DS s 0) tI:=by unfold EO;rw [if_neg hl,if_neg (λx=>x hk),if_neg hx]
    have hv:=gi hk
    refine Ak (An Ae ?_)
    repeat' ((conv=>whnf);first|exact Db|(refine Bv ?_;intros)|(refine Dc ?_ ?_ ?_;rotate_left)|(refine Bw ?_ ?_<;>intro _)|refine JP (λ_=>?_) ?_|with_reducible refine WF ?_)
    refine Ak (An Ae ?_)
    repeat' ((conv=>whnf);first|exact Db|(refine Bv ?_;intros)|(refine Dc ?_ ?_ ?_;rotate_left)|(refine Bw ?_ ?_<;>intro _)|refine JP (λ_=>?_) ?_|refine WJ (λ_=>?_)|with_reducible refine WF ?_)
    refine Ak (An Ae ?_)
    repeat' ((conv=>whnf);first|exact Db|(refine Bv ?_;intros)|(refine Dc ?_ ?_ ?_;rotate_left)|(refine Bw ?_ ?_<;>intro _)|refine JP (λ_=>?_) ?_|refine S8 ?_|with_reducible refine WF ?_)
    refine Ak (An Ae ?_)
    repeat' ((conv=>whnf);first|exact Db|(refine Bv ?_;intros)|(refine Dc ?_ ?_ ?_;rotate_left)|(refine Bw ?_ ?_<;>intro _)|refine JP (λ_=>?_) ?_|refine ar (p:=λc=>AF (c:Nat)==0) Vw ?_|with_reducible refine WF ?_)
    refine Ak (An Ae ?_)
    repeat' ((conv=>whnf);first|exact Db|(refine Bv ?_;intros)|(refine Dc ?_ ?_ ?_;rotate_left)|(refine Bw ?_ ?_<;>intro _)|refine JP (λ_=>?_) ?_|refine S5 (λb fb=>?_)|with_reducible refine WF ?_)
    have hb0:=fb.1
    have hq0:=IH (s:=s) (p:=0) AC
    refine An Ae ?_
    repeat' ((conv=>whnf);first|exact Db|(refine Bv ?_;intros)|(refine Dc ?_ ?_ ?_;rotate_left)|(refine Bw ?_ ?_<;>intro _)|refine JP (λ_=>?_) ?_|refine L5 (p:=0) AC AC (St.AM _ _ _) ?_|with_reducible refine WF ?_)
    refine TI (α:=LW) (λ_=>[]) [0,6] [] (λy=>y.m) (λy=>y.m.box b=some (OU s y.p y.sp (C2 s y.sp).1 (C2 s y.sp).2 (Az y.x.Ag) (H3 y.x.notes) y.w1 y.w2 y.x.Dx y.x.ends y.x.j)/\BU st y.m y.w1 (y.x.Ag.length*4) y.w2 (y.x.notes.length*5)/\
     BF s y.sp/\BF s y.p/\y.sp<=y.p/\0<=y.x.Dx/\y.x.Dx<=y.p/\y.x.Ag.length<=y.p/\y.x.notes.length<=y.p/\GF s (DS s 0) tI=GF s y.p y.x)
     (λy=>s.length - y.p) ⟨DS s 0,0,tI,.full,.full,_⟩ ⟨?_,⟨trivial,trivial,trivial,trivial,trivial,St.Ar (St.Ar (St.le_refl _) hb0 _) hb0 _⟩,.zero s,BF.my hv (.zero s),by simp only [];omega,Int.le_refl _,by simp only [tI];omega,Nat.zero_le _,Nat.zero_le _,rfl⟩ Yl (St.le_refl _) ?_
    .have e0:C2 s 0=(1,1):=E6
     dsimp only
     rw [e0]
     exact St.AM _ _ _
    rintro ⟨p,sp,x,w1,w2,m⟩ ⟨j1,j2,j3,j4,j5,j6,j7,j8,j9,U⟩
    dsimp only at j1 j2 j3 j4 j5 j6 j7 j8 j9 U |-
    have hp:=j4.le
    by_cases hpl:p<s.length
    .have hns:=λ{R:AA->St->Prop}=>ow (st:=m) (R:=R) (s:=s) (pos:=p) AC hpl
     by_cases n2:(CE s p).2=0
     .rw [n2] at hns
      by_cases n1:0<(CE s p).1
      .obtain ⟨q,e1,e2,e3,e4⟩:=VQ hv j4 n2 n1
       rw [e1] at hns
       rw [db hpl n2 e1 e2] at U
       have hq:=IH e3
       have hnt:=λ{R:AA->St->Prop}=>sf (st:=m) (R:=R) (st0:=st) AC hv j3 j4 e4 j5 AC ⟨j6,AC⟩ (by rw [Je];omega) hb0 (by rw [Je];exact j2) j1
       repeat' ((conv=>whnf);first|exact Db|(refine Bv ?_;intros)|(refine Dc ?_ ?_ ?_;rotate_left)|(refine Bw ?_ ?_<;>intro _)|refine JP (λ_=>?_) ?_|refine hns ?_|refine Am j1 ?_|refine WJ (λ_=>?_)|refine hnt (λv2 st' sp' c' hs' hR hB=>?_)|refine L5 (p:=DS s q) AC AC hB ?_|with_reducible refine WF ?_)
       all_goals conv=>whnf
       have eb:=mz s q
       refine ⟨⟨DS s q,sp',Sl s p q x,w1,v2,_⟩,⟨?_,?_,c',e4.my hv,hs',j6,by show x.Dx<=_;simp only [];omega,by show x.Ag.length<=_;simp only [];omega,by show (x.notes++[_]).length<=_;rw [List.length_append,List.length_singleton];simp only [];omega,U⟩,by simp only [];omega,Yl,St.le_refl _⟩
       .refine (St.AM _ _ _).trans ?_
        show _=some (OU s (DS s q) sp' _ _ (Az x.Ag) (H3 (x.notes++[_])) w1 v2 x.Dx (C2 s q).1 _)
        rw [YV]
        exact congrArg (λz=>some (OU s z sp' _ _ _ _ _ _ _ _ _)) eb
       .show BU st _ w1 (x.Ag.length*4) v2 ((x.notes++[_]).length*5)
        rw [List.length_append,List.length_singleton]
        rw [Je] at hR
        exact hR.set hb0 _
      .have hlx:=λ{R:AA->St->Prop}=>iV (st:=m) (R:=R) AC hpl j1
       by_cases k2:(Cj s p).2.2=0
       .obtain ⟨k1,q,e1,e2,e3,e4⟩:=Vx hv j4 k2
        rw [k2,e1] at hlx
        rw [iT hpl n2 n1 k2 e1 e2] at U
        have hq:=IH e3
        have htk:=λ{R:AA->St->Prop}=>lF (st:=m) (R:=R) (st0:=st) (k:=(Cj s p).1) (e0:=0) AC hv j3 j4 e4 j5 AC ⟨j6,AC⟩ (by rw [Ej];omega) hb0 (by rw [Ej];exact j2) j1
        repeat' ((conv=>whnf);first|exact Db|(refine Bv ?_;intros)|(refine Dc ?_ ?_ ?_;rotate_left)|(refine Bw ?_ ?_<;>intro _)|refine JP (λ_=>?_) ?_|refine hns ?_|refine Am j1 ?_|refine WJ (λ_=>?_)|refine hlx ?_|refine htk (λv1 st' hR hB=>?_)|refine L5 (p:=q) AC e3 hB ?_|with_reducible refine WF ?_)
        all_goals conv=>whnf
        have hgap:(LN s p q (Cj s p).1 x).Dx=x.Dx\/(LN s p q (Cj s p).1 x).Dx=x.Dx+1:=by
         show (if cntF (Cj s p).1 (A1 s p q) then x.Dx+1 else x.Dx)=_\/(if cntF (Cj s p).1 (A1 s p q) then x.Dx+1 else x.Dx)=_
         split
         .exact .inr rfl
         .exact .inl rfl
        refine ⟨⟨DS s q,q,LN s p q (Cj s p).1 x,v1,w2,_⟩,⟨?_,?_,e4,e4.my hv,hq.1,by simp only [];omega,by simp only [];omega,by show (x.Ag++[_]).length<=_;rw [List.length_append,List.length_singleton];simp only [];omega,by show x.notes.length<=_;simp only [];omega,U⟩,by simp only [];omega,Yl,St.le_refl _⟩
        .refine (St.AM _ _ _).trans ?_
         show _=some (OU s (DS s q) q _ _ (Az (x.Ag++[_])) (H3 x.notes) v1 w2 _ (C2 s q).1 true)
         rw [eN]
         rfl
        .show BU st _ v1 ((x.Ag++[_]).length*4) w2 (x.notes.length*5)
         rw [List.length_append,List.length_singleton]
         rw [Ej] at hR
         exact hR.set hb0 _
       .rw [iR hpl n2 n1 k2] at U
        repeat' ((conv=>whnf);first|exact Db|(refine Bv ?_;intros)|(refine Dc ?_ ?_ ?_;rotate_left)|(refine Bw ?_ ?_<;>intro _)|refine JP (λ_=>?_) ?_|refine hns ?_|refine Am j1 ?_|refine WJ (λ_=>?_)|refine hlx ?_|with_reducible refine WF ?_)
        exact fin (h1' _ _ _ j2.le (e.trans U)) rfl
     .rw [iP hpl n2] at U
      repeat' ((conv=>whnf);first|exact Db|(refine Bv ?_;intros)|(refine Dc ?_ ?_ ?_;rotate_left)|(refine Bw ?_ ?_<;>intro _)|refine JP (λ_=>?_) ?_|refine hns ?_|refine Am j1 ?_|refine WJ (λ_=>?_)|with_reducible refine WF ?_)
      exact fin (h1' _ _ _ j2.le (e.trans U)) rfl
    .rw [iQ hpl] at U
     repeat' ((conv=>whnf);first|exact Db|(refine Bv ?_;intros)|(refine Dc ?_ ?_ ?_;rotate_left)|(refine Bw ?_ ?_<;>intro _)|refine JP (λ_=>?_) ?_|refine Am j1 ?_|refine WJ (λ_=>?_)|with_reducible refine WF ?_)
     exact fin (h2 x w1 w2 m (e.trans U) j2.le) rfl
  .have e:EO s=.inl ((M8 s).1,(M8 s).2):=by unfold EO;rw [if_neg hl,if_pos hk]
   refine An Ae ?_
   repeat' ((conv=>whnf);first|exact Db|(refine Bv ?_;intros)|(refine Dc ?_ ?_ ?_;rotate_left)|(refine Bw ?_ ?_<;>intro _)|refine JP (λ_=>?_) ?_|refine WJ (λ_=>?_)|refine S8 ?_|with_reducible refine WF ?_)
   exact fin (h1 _ _ e) rfl
end
section
variable {st:St} {R:AA->St->Prop}
def qt (k:Int) (t:List UInt8):Bool:=decide (¬k=15)||(!(t==[123])&& !(t==[125])&& !(t==[59]))
end
end Go.Proofs.Z
