/-
  Parts of a proof: lemmas that the last text uses.
-/
import Derived.Test.YtpkekfapphbgjaaGreatDoorW5
import Derived.Lib.Join
set_option linter.unusedVariables false
set_option linter.unusedSimpArgs false
set_option maxHeartbeats 16000000
variable {l s t:List UInt8} {tx j:Bool} {c:Go.Code} {m b p n pos sp n2:Nat} {st0:Go.Aw.St} {o:List Int} {w1 w2:Go.Aw.AH} {g:List (Nat×Nat)} {P:Go.Program} {Q:Go.Aw.AP->Go.Aw.Env->Go.Aw.St->Prop} {env:Go.Aw.Env} {α:Type} {K:Nat->Prop} {v i k ln Fp:Int} {notes:List (List Go.Aw.V)}
namespace Go.Aw
open Go
theorem pd (h:0<Fa l):J4 true l=.inr (-1,Fa l):=by
 cases l with
 |nil=>exact absurd h Do
 |cons a r=>
  have h1:AV (a::r)=92:=by
   by_cases h1:AV (a::r)=92
   .exact h1
   .unfold Fa at h;simp_all
  unfold J4
  simp_all
theorem pc (h1:AV l=92) (h:tx=false\/Fa l=0):J4 tx l=match IG tx l with|none=>.inl 51|some p=>.inr p:=by
 cases l with
 |nil=>exact absurd h1 Do
 |cons a r=>
  unfold J4
  grind
theorem jP (U:l≠[]) (h1:AV l≠92):J4 tx l=if MX (Ba l) then .inl 50 else .inr (((Ba l).1:Nat),(Ba l).2):=by
 cases l with
 |nil=>rfl
 |cons a r=>
  unfold J4
  simp_all
theorem bb {c:Int} (h:AA c≠0):c<=1114111:=by
 by_cases U:c<=1114111
 .exact U
 .refine absurd ?_ h
  unfold AA Li
  omega
theorem ec {c:Nat}:MX (c,m)=true↔AA (c:Int)=0\/(AA (c:Int)=1/\¬c=32)\/(c=65533/\m=1):=by
 simp only [MX,Bool.or_eq_true,Bool.and_eq_true,Bool.not_eq_true',beq_iff_eq,beq_eq_false_iff_ne,ne_eq]
 omega
def WS (o:List Int) (v:Int):List Int:=if v= -1 then o else o++[v]
end Go.Aw
namespace Go.Proofs.Z
open Go Go.Aw
def QB (st0 st:St) (b:Nat) (s:List UInt8) (tx:Bool):Prop:=∃q o w1 g w2,st.box b=some (qC s q tx o w1 g w2)/\Ca st0 st w1 o.length w2 (2*g.length)
section
variable {st:St} {R:As->St->Prop}
attribute [local irreducible] Go.Aw.Aj
theorem zG (hl:s.length<=100000000) (hp:p<=s.length) (hb:st.box b=some (qC s p tx o w1 g w2)) (hr:Ca st0 st w1 o.length w2 (2*g.length)) (hgl:g.length<=100000000)
 (h0:(tx=false\/Fa (s.drop p)=0)->R (.ret (.bool false)) st)
 (h:tx=true->0<Fa (s.drop p)->∀w2' st',Ca st0 st' w1 o.length w2' (2*(g++[(p,p+Fa (s.drop p))]).length)->st'.box=st.box->R (.ret (.bool true)) (st'.Aa b (qC s (p+Fa (s.drop p)) true o w1 (g++[(p,p+Fa (s.drop p))]) w2'))):PC 296 [.ptr b 0] st R:=by
 by_cases hg:tx=false\/Fa (s.drop p)=0
 .exact xE hl hp hb hg (h0 hg)
 .have ht:tx=true:=by cases tx;· simp_all
                      rfl
  subst ht
  have U:0<Fa (s.drop p):=by
   rcases Nat.eq_zero_or_pos (Fa (s.drop p)) with e|e
   .omega
   .exact e
  exact sZ hl hb U hr hgl (h rfl U)
theorem wj (hl:s.length<=100000000) (hp:p<=s.length) (hb0:st0.box b=none) (hb:st.box b=some (qC s p tx o w1 g w2)) (hr:Ca st0 st w1 o.length w2 (2*g.length))
 (ho:o.length<=100000000) (hgl:g.length<=100000000)
 (h0:∀e,J4 tx (s.drop p)=.inl e->∀st',QB st0 st' b s tx->R (.B7 (Ka p e)) st')
 (h:∀v n,J4 tx (s.drop p)=.inr (v,n)->∀w1' w2' st' g',Ca st0 st' w1' (WS o v).length w2' (2*g'.length)->st'.box b=some (qC s (p+n) tx (WS o v) w1' g' w2')->g'=(if tx=true/\0<Fa (s.drop p) then g++[(p,p+n)] else g)->R (.ret (.Bc [])) st'):
 PC 244 [.ptr b 0] st R:=by
 have hqb:QB st0 st b s tx:=⟨p,o,w1,g,w2,hb,hr⟩
 refine AM Ac [] Tryz.func244 rfl Do rfl ?_
 by_cases U:s.length<=p
 .have hd:s.drop p=[]:=List.drop_eq_nil_iff.2 AC
  have h0:=h0 50 (by rw [hd];rfl) st hqb
  refine Af Ac ?_
  repeat' ((conv=>whnf);first|exact EG|(refine B6 ?_;intros)|(refine EH ?_ ?_ ?_;rotate_left)|(refine Cv ?_ ?_<;>intro _)|refine Al hb ?_|refine GS ?_|refine Ab [(0,true),(1,true),(2,true),(3,true),(4,true),(5,true),(6,true),(7,true),(8,false),(9,true),(10,true),(11,true),(12,true),(13,true)] [] GE ?_|refine Ao GE ?_|fail)
  exact fin h0 rfl
 have U:p<s.length:=AC
 obtain ⟨e,he⟩:∃e,s[p]? =some e:=⟨s[p],List.getElem?_eq_getElem U⟩
 have he':s[(p:Int).toNat]? =some e:=he
 have hv:=CZ he
 refine Ad (Af Ac ?_)
 repeat' ((conv=>whnf);first|exact EG|(refine B6 ?_;intros)|(refine EH ?_ ?_ ?_;rotate_left)|(refine Cv ?_ ?_<;>intro _)|refine Al hb ?_|refine GS ?_|refine Ab [(0,true),(1,true),(2,true),(3,true),(4,true),(5,true),(6,true),(7,true),(8,false),(9,true),(10,true),(11,true),(12,true),(13,true)] [] GE ?_|refine Ao GE ?_|fail)
 refine Ad (Af Ac ?_)
 repeat' ((conv=>whnf);first|exact EG|(refine B6 ?_;intros)|(refine EH ?_ ?_ ?_;rotate_left)|(refine Cv ?_ ?_<;>intro _)|refine zG hl hp hb hr hgl (λhg=>?_) (λht hg w2' st1 hr1 hb1=>?_)|refine Ab [(0,true),(1,true),(2,true),(3,true),(4,true),(5,true),(6,true),(7,true),(8,false),(9,true),(10,true),(11,true),(12,true),(13,true)] [] GE ?_|refine Ao GE ?_|fail)
 .by_cases h92:AV (s.drop p)=92
  .have h1:=pc h92 hg
   have hng:¬(tx=true/\0<Fa (s.drop p)):=λx=>by simp_all
   rcases hesc:IG tx (s.drop p) with _|⟨v,n⟩
   .rw [hesc] at h1
    have h0:=h0 51 h1
    have hE:∀{R:As->St->Prop},(∀q,R (.B7 (Ka p 51)) (st.Aa b (qC s q tx o w1 g w2)))->PC 297 [.ptr b 0] st R:=λh=>Ya hl U hb (λv n x=>by simp_all) (λ_=>h)
    refine Af Ac ?_
    repeat' ((conv=>whnf);first|exact EG|(refine B6 ?_;intros)|(refine EH ?_ ?_ ?_;rotate_left)|(refine Cv ?_ ?_<;>intro _)|refine Al hb ?_|refine hE (λq=>?_)|refine Ab [(0,true),(1,true),(2,true),(3,true),(4,true),(5,true),(6,true),(7,true),(8,false),(9,true),(10,true),(11,true),(12,true),(13,true)] [] GE ?_|refine Ao GE ?_|fail)
    exact fin (h0 _ ⟨_,_,_,_,_,St.AX _ _ _,hr.set hb0 _⟩) rfl
   .rw [hesc] at h1
    have hn:=eG hesc
    rw [List.length_drop] at hn
    dsimp only at hn
    have h:=h v n h1
    rw [if_neg hng] at h
    have hb2:=St.AX st b (qC s (p+n) tx o w1 g w2)
    have hr2:=hr.set hb0 (qC s (p+n) tx o w1 g w2)
    have hE:∀{R:As->St->Prop},R (.ret (.int .i64 v)) (st.Aa b (qC s (p+n) tx o w1 g w2))->PC 297 [.ptr b 0] st R:=λh=>Ya hl U hb (λv' n' x=>by simp_all) (λx=>by simp_all)
    generalize st.Aa b (qC s (p+n) tx o w1 g w2)=st2 at hb2 hr2 hE
    unfold WS at h
    by_cases hv1:v= -1
    .rw [if_pos hv1] at h
     refine Af Ac ?_
     repeat' ((conv=>whnf);first|exact EG|(refine B6 ?_;intros)|(refine EH ?_ ?_ ?_;rotate_left)|(refine Cv ?_ ?_<;>intro _)|refine Al hb ?_|refine hE ?_|refine Ab [(0,true),(1,true),(2,true),(3,true),(4,true),(5,true),(6,true),(7,true),(8,false),(9,true),(10,true),(11,true),(12,true),(13,true)] [] GE ?_|refine Ao GE ?_|fail)
     all_goals first
      |exact fin (h w1 w2 st2 g hr2 hb2 rfl) rfl
      |(exfalso;omega)
    .rw [if_neg hv1] at h
     refine Af Ac ?_
     repeat' ((conv=>whnf);first|exact EG|(refine B6 ?_;intros)|(refine EH ?_ ?_ ?_;rotate_left)|(refine Cv ?_ ?_<;>intro _)|refine Al hb ?_|refine Al hb2 ?_|refine hE ?_|refine Zx hr2 AC (λw1' st3 hr3 hb3=>?_)|refine Al ((congrFun hb3 b).trans hb2) ?_|refine Ab [(0,true),(1,true),(2,true),(3,true),(4,true),(5,true),(6,true),(7,true),(8,false),(9,true),(10,true),(11,true),(12,true),(13,true)] [] GE ?_|refine Ao GE ?_|fail)
     exact fin (h w1' w2 _ g (hr3.set hb0 _) (St.AX _ _ _) rfl) rfl
  .have h1:=jP (tx:=tx) (Qg U) h92
   have hng:¬(tx=true/\0<Fa (s.drop p)):=λx=>by simp_all
   rcases hd:Ba (s.drop p) with ⟨c,m⟩
   have hrn:=rune_le U hd.symm
   have hx:NM s p=((c:Int),(m:Int)):=by rw [NO AC AC,Nb U hd.symm]
   rw [hd] at h1
   refine Ad (Af Ac ?_)
   repeat' ((conv=>whnf);first|exact EG|(refine B6 ?_;intros)|(refine EH ?_ ?_ ?_;rotate_left)|(refine Cv ?_ ?_<;>intro _)|refine Al hb ?_|refine Ab [(0,true),(1,true),(2,true),(3,true),(4,true),(5,true),(6,true),(7,true),(8,false),(9,true),(10,true),(11,true),(12,true),(13,true)] [] GE ?_|refine Ao GE ?_|fail)
   refine Ad (Af Ac ?_)
   repeat' ((conv=>whnf);first|exact EG|(refine B6 ?_;intros)|(refine EH ?_ ?_ ?_;rotate_left)|(refine Cv ?_ ?_<;>intro _)|refine Al hb ?_|refine fu AC hx ?_|refine Ab [(0,true),(1,true),(2,true),(3,true),(4,true),(5,true),(6,true),(7,true),(8,false),(9,true),(10,true),(11,true),(12,true),(13,true)] [] GE ?_|refine Ao GE ?_|fail)
   refine Ad (Af Ac ?_)
   repeat' ((conv=>whnf);first|exact EG|(refine B6 ?_;intros)|(refine EH ?_ ?_ ?_;rotate_left)|(refine Cv ?_ ?_<;>intro _)|refine Ll ?_|refine Ab [(0,true),(1,true),(2,true),(3,true),(4,true),(5,true),(6,true),(7,true),(8,false),(9,true),(10,true),(11,true),(12,true),(13,true)] [] GE ?_|refine Ao GE ?_|fail)
   cases hbad:MX (c,m) with
   |true=>
    rw [if_pos hbad] at h1
    have h0:=h0 50 h1 st hqb
    refine Af Ac ?_
    have hbi:=ec.1 hbad
    repeat' ((conv=>whnf);first|exact EG|(refine B6 ?_;intros)|(refine EH ?_ ?_ ?_;rotate_left)|(refine Cv ?_ ?_<;>intro _)|refine Al hb ?_|refine GS ?_|refine Ab [(0,true),(1,true),(2,true),(3,true),(4,true),(5,true),(6,true),(7,true),(8,false),(9,true),(10,true),(11,true),(12,true),(13,true)] [] GE ?_|refine Ao GE ?_|fail)
    all_goals first|exact fin h0 rfl|(exfalso;omega)
   |false=>
    rw [if_neg f9] at h1
    have h:=h (c:Int) m h1
    rw [if_neg hng] at h
    unfold WS at h
    rw [if_neg AC] at h
    have hbi:¬(AA (c:Int)=0\/(AA (c:Int)=1/\¬c=32)\/(c=65533/\m=1)):=λx=>by rw [ec.2 x] at hbad;grind
    have hcm:=bb (c:=(c:Int)) AC
    refine Af Ac ?_
    repeat' ((conv=>whnf);first|exact EG|(refine B6 ?_;intros)|(refine EH ?_ ?_ ?_;rotate_left)|(refine Cv ?_ ?_<;>intro _)|refine Al hb ?_|refine GS ?_|refine Zx hr AC (λw1' st3 hr3 hb3=>?_)|refine Al ((congrFun hb3 b).trans hb) ?_|refine Al (St.AX _ _ _) ?_|refine Ab [(0,true),(1,true),(2,true),(3,true),(4,true),(5,true),(6,true),(7,true),(8,false),(9,true),(10,true),(11,true),(12,true),(13,true)] [] GE ?_|refine Ao GE ?_|fail)
    all_goals exact fin (h w1' w2 _ g ((hr3.set hb0 _).set hb0 _) ((St.AX _ _ _).trans (congrArg some (UD AC))) rfl) rfl
 .subst ht
  have h1:=pd hg
  have h:=h _ _ h1 w1 w2' (st1.Aa b (qC s (p+Fa (s.drop p)) true o w1 (g++[(p,p+Fa (s.drop p))]) w2')) _ (hr1.set hb0 _) (St.AX _ _ _) (if_pos ⟨rfl,hg⟩).symm
  repeat' ((conv=>whnf);first|exact EG|(refine B6 ?_;intros)|(refine EH ?_ ?_ ?_;rotate_left)|(refine Cv ?_ ?_<;>intro _)|refine Ab [(0,true),(1,true),(2,true),(3,true),(4,true),(5,true),(6,true),(7,true),(8,false),(9,true),(10,true),(11,true),(12,true),(13,true)] [] GE ?_|refine Ao GE ?_|fail)
  exact fin h rfl
end
end Go.Proofs.Z
namespace Go.Aw
open Go
theorem P6 {c:Operand} {x y:Code} {st:St} (b:Bool) (hb:env.eval c=.bool b) (h:if b=true then AW P x Q env st else AW P y Q env st):AW P (.cond c x y) Q env st:=λD I0 st0 w0 I β a w hr=>by
 have U:=hr.f.eval c
 rw [hb] at U
 have U:=Jz U
 cases b with
 |true=>exact wp_cond_true U (h D I0 st0 w0 I β a w hr)
 |false=>exact wp_cond_false U (h D I0 st0 w0 I β a w hr)
section
variable {P:Program}
theorem rF {st:St} (E:α->Env) (S:α->St) (J:α->Prop) (U:α->Nat) (x0:α) (h0:J x0) (he:(E x0).E3 env) (hs:St.le (S x0) st)
 (round:∀x,J x->AW P c (B2 (λenv' st'=>∃y,J y/\U y<U x/\(E y).E3 env'/\St.le (S y) st') Q) (E x) (S x)):AW P (.loop c) Q env st:=λD I0 st0 w0 I β a w h=>by
 refine Lg (λn a w=>∃I β x,Rel D I0 st0 w0 I β (E x) (S x) a w/\J x/\n=U x) (n0:=U x0) ⟨I,_,x0,(h.H5 hs).Jf (Env.Js he),h0,rfl⟩ ?_
 rintro n a w ⟨I,β,x,h,hi,rfl⟩
 refine wp_mono (round x hi D I0 st0 w0 I β a w h) ?_
 rintro e a w ⟨I,β,env,st,ae,h1,h2,h3⟩
 cases ae with
 |normal=>
  cases e<;>try exact h2.elim
  obtain ⟨y,g1,g2,g3,g4⟩:=h3
  exact ⟨U y,g2,I,_,y,(h1.H5 g4).Jf (Env.Js g3),g1,rfl⟩
 |exit i=>cases e<;>first|exact ⟨I,β,env,st,.exit i,h1,h2,h3⟩|exact h2.elim
 |goto i=>cases e<;>first|exact ⟨I,β,env,st,.goto i,h1,h2,h3⟩|exact h2.elim
 |ret=>cases e<;>first|exact ⟨I,β,env,st,.ret,h1,h2,h3⟩|exact h2.elim
 |B7 v=>cases e<;>first|exact ⟨I,β,env,st,.B7 v,h1,h2,h3⟩|exact h2.elim
theorem FP {id:Nat} {st:St} (h:AW P c (Mp id Q) env st):AW P (.block id c) Q env st:=λD I0 st0 w0 I β a w hr=>by
 refine wp_block (wp_mono (h D I0 st0 w0 I β a w hr) ?_)
 rintro e a w ⟨I,β,env,st,ae,h1,h2,h3⟩
 cases ae with
 |normal=>cases e<;>first|exact ⟨I,β,env,st,.normal,h1,trivial,h3⟩|exact h2.elim
 |exit i=>
  cases e<;>try exact h2.elim
  rename_i U
  have h2:U=i:=h2
  subst h2
  simp only [Mp] at h3
  show (if U=id then Dn D I0 st0 w0 Q .normal a w else Dn D I0 st0 w0 Q (.exit U) a w)
  by_cases hi:U=id
  .subst hi
   rw [if_pos rfl]
   simp only [Nat.beq_refl,cond_true] at h3
   exact ⟨I,β,env,st,.normal,h1,trivial,h3⟩
  .rw [if_neg hi]
   have:Nat.beq U id=false:=by
    cases hb:Nat.beq U id with
    |false=>rfl
    |true=>exact absurd (Nat.eq_of_beq_eq_true hb) hi
   rw [this] at h3
   exact ⟨I,β,env,st,.exit U,h1,rfl,h3⟩
 |goto i=>cases e<;>first|exact ⟨I,β,env,st,.goto i,h1,h2,h3⟩|exact h2.elim
 |ret=>cases e<;>first|exact ⟨I,β,env,st,.ret,h1,h2,h3⟩|exact h2.elim
 |B7 v=>cases e<;>first|exact ⟨I,β,env,st,.B7 v,h1,h2,h3⟩|exact h2.elim
end
theorem dZ {j sz:Nat} {n:Int} (h:n=(j:Nat)) (U:j<m) (k:K (j*sz)):(0<=n/\n<(m:Int))/\∀k,k=n.toNat*sz->K k:=
 ⟨⟨AC,AC⟩,λk' e=>by
   rw [h,Int.toNat_natCast] at e
   subst e;exact k⟩
theorem Kx {st:St} (f:α->List (Nat×V)) (g:α->List (Nat×List V)) (keep U:List Nat) (S:α->St) (J:α->Prop) (μ:α->Nat) (x0:α) (h0:J x0) (he:(env.Mm (f x0) (g x0) keep U).E3 env) (hs:St.le (S x0) st)
 (round:∀x,J x->AW P c (B2 (λenv' st'=>∃y,J y/\μ y<μ x/\(env.Mm (f y) (g y) keep U).E3 env'/\St.le (S y) st') Q) (env.Mm (f x) (g x) keep U) (S x)):AW P (.loop c) Q env st:=
 rF (λy=>env.Mm (f y) (g y) keep U) S J μ x0 h0 he hs round
theorem DL {x y:Code} {st:St} (f:α->List (Nat×V)) (g:α->List (Nat×List V)) (keep U:List Nat) (S:α->St) (J:α->Prop)
 (hx:AW P x (B2 (λenv' st'=>∃p,J p/\(env.Mm (f p) (g p) keep U).E3 env'/\St.le (S p) st') Q) env st)
 (hy:∀p,J p->AW P y Q (env.Mm (f p) (g p) keep U) (S p)):AW P (.seq x y) Q env st:=
 U0 (λp=>env.Mm (f p) (g p) keep U) S J hy hx
theorem Xau {b:Bool} {p q:Prop} (h:b=true) (k:p):Bw b p q:=by subst h;exact Wi k
theorem kY (h:AV l=34):EE l=.inr 1:=by rw [EE,if_pos h]
theorem kX {e:Int} (h:AV l≠34) (k:J4 true l=.inl e):EE l=.inl (0,e):=by
 rw [EE,if_neg h]
 split
 .rename_i e' U;rw [k] at U;injection U with U;rw [U]
 .rename_i p hp;rw [k] at hp;cases hp
theorem qL (h:AV l≠34) (k:J4 true l=.inr (v,n)):EE l=match EE (l.drop n) with| .inl q=>.inl (q.1+n,q.2)| .inr m=>.inr (m+n):=by
 rw [EE,if_neg h]
 split
 .rename_i e' he;rw [k] at he;cases he
 .rename_i p U;rw [k] at U;injection U with U;subst U;rfl
theorem kZ (h:AV l=34):Kr l=[]:=by rw [Kr,if_pos h]
theorem qN (h:AV l≠34) (k:J4 true l=.inr (v,n)):Kr l=if v= -1 then Kr (l.drop n) else v::Kr (l.drop n):=by
 rw [Kr,if_neg h]
 split
 .rename_i e' he;rw [k] at he;cases he
 .rename_i p U;rw [k] at U;injection U with U;subst U;rfl
theorem k8 {q:Nat} (h:AV l=34):JH q l=[]:=by rw [JH,if_pos h]
theorem qO {q:Nat} (h:AV l≠34) (k:J4 true l=.inr (v,n)):JH q l=if 0<Fa l then (q,q+n)::JH (q+n) (l.drop n) else JH (q+n) (l.drop n):=by
 rw [JH,if_neg h]
 split
 .rename_i e' he;rw [k] at he;cases he
 .rename_i p U;rw [k] at U;injection U with U;subst U;rfl
def gU (q:Nat):Sum (Nat×Int) Nat->Sum (Nat×Int) Nat
 | .inl k=>.inl (q+k.1,k.2)
 | .inr n=>.inr (q+n)
theorem rJ {q:Nat} (h:AV l≠34) (k:J4 true l=.inr (v,n)):gU q (EE l)=gU (q+n) (EE (l.drop n)):=by
 rw [qL h k]
 cases EE (l.drop n) with
 |inl k=>simp only [gU];congr 2;omega
 |inr m=>simp only [gU];congr 1;omega
structure QLs where
 q:Nat
 o:List Int
 g:List (Nat×Nat)
 w1:AH
 w2:AH
 m:St
end Go.Aw
namespace Go.Proofs.Z
open Go Go.Aw
section
variable {st:St} {R:As->St->Prop}
noncomputable def xZ:List Oper:=match Tryz.f201.body with|some (.seq _ (.seq _ (.seq _ (.seq _ (.seq (.seq _ (.cond _ (.seq (.block _ (.loop (.seq (.seq (.region _ ops _) _) _))) _) _)) _)))))=>ops.toList|_=>[]
noncomputable def XaB (b q n:Nat) (s:List UInt8) (e x:Int) (bs:List Bool):Env:=
 {tmps:=jY [(0,.ptr b 0),(3,.int .u8 e)] xZ [.ptr b 0,.int .u8 x,.int .u8 e,.bool false,.bool false,.ptr b 0,.ptr b 0,.ptr b 1,.int .i64 (q:Int),.ptr b 0,.ptr b 0,.ptr b 0,.str s,.int .i64 (n:Int),.bool false,.bool false] bs,boxes:=[],BU:=0,sz:=83,gl:=[]}
def v7:List (List Bool×Nat):=yq 16 [0,2,33,34,128,98,161,227,484,997,1001,2022,2025,17381,17386,4071,4073,18406,18410,50149,50155,8168,8169,20455,20458,51174,51179,115685,115692,16361,24552,24554,53223,53227,116710,116716,246757,246765,32746,57320,57323,118759,118764,247782,247789,508901,65515,122856,122860,249831,249837,509926,131052,253928,253933,511975,262125,516072,524270,1048559]
theorem jz (hl:s.length<=100000000) (hp:AV (s.drop p)=34) (hb0:st0.box b=none) (hb:st.box b=some (qC s p tx [] w1 [] w2)) (hr:Ca st0 st w1 0 w2 0)
 (h0:∀k e,EE (s.drop (p+1))=.inl (k,e)->∀st',QB st0 st' b s true->R (.B7 (Ka (p+1+k:Nat) e)) st')
 (h:∀n,EE (s.drop (p+1))=.inr n->∀w1' w2' st',Ca st0 st' w1' (Kr (s.drop (p+1))).length w2' (2*(JH (p+1) (s.drop (p+1))).length)->st'.box b=some (qC s (p+1+n) true (Kr (s.drop (p+1))) w1' (JH (p+1) (s.drop (p+1))) w2')->R (.ret (.int .i64 14)) st'):
 PC 201 [.ptr b 0] st R:=by
 have hpl:p<s.length:=B4 (k:=p) AC
 obtain ⟨e,he⟩:∃e,s[p]? =some e:=⟨s[p],List.getElem?_eq_getElem hpl⟩
 have he':s[(p:Int).toNat]? =some e:=he
 have hv:=CZ he
 have hv34:((e.toNat:Nat):Int)=34:=AC
 refine AM Ac [] Tryz.func201 rfl Do rfl ?_
 refine Ad (Af Ac ?_)
 repeat' ((conv=>whnf);first|exact EG|(refine B6 ?_;intros)|(refine EH ?_ ?_ ?_;rotate_left)|refine Ab [(0,true),(2,true),(1,false),(3,true),(4,true),(5,true),(6,true),(7,true),(8,true),(9,true),(10,true),(11,true),(12,true),(13,true),(14,true),(15,true)] [] GE ?_|refine Ao GE ?_|fail)
 refine Ad (Af Ac ?_)
 repeat' ((conv=>whnf);first|exact EG|(refine B6 ?_;intros)|(refine EH ?_ ?_ ?_;rotate_left)|refine Al hb ?_|refine Ab [(0,true),(2,true),(1,false),(3,true),(4,true),(5,true),(6,true),(7,true),(8,true),(9,true),(10,true),(11,true),(12,true),(13,true),(14,true),(15,true)] [] GE ?_|refine Ao GE ?_|fail)
 refine Ad (Af Ac ?_)
 repeat' ((conv=>whnf);first|exact EG|(refine B6 ?_;intros)|(refine EH ?_ ?_ ?_;rotate_left)|refine Al hb ?_|refine Ab [(0,true),(2,true),(1,false),(3,true),(4,true),(5,true),(6,true),(7,true),(8,true),(9,true),(10,true),(11,true),(12,true),(13,true),(14,true),(15,true)] [] GE ?_|refine Ao GE ?_|fail)
 refine Ad (Af Ac ?_)
 repeat' ((conv=>whnf);first|exact EG|(refine B6 ?_;intros)|(refine EH ?_ ?_ ?_;rotate_left)|refine Al (St.AX _ _ _) ?_|refine Ab [(0,true),(2,true),(1,false),(3,true),(4,true),(5,true),(6,true),(7,true),(8,true),(9,true),(10,true),(11,true),(12,true),(13,true),(14,true),(15,true)] [] GE ?_|refine Ao GE ?_|fail)
 refine dO (st':=st.Aa b (qC s (p+1) true [] w1 [] w2)) (St.K5 _ _ _ _).symm ?_
 have hb1:=St.AX st b (qC s (p+1) true [] w1 [] w2)
 have hr1:=hr.set hb0 (qC s (p+1) true [] w1 [] w2)
 generalize st.Aa b (qC s (p+1) true [] w1 [] w2)=st1 at hb1 hr1
 refine Ad (Ad (Af Ac ?_))
 repeat' ((conv=>whnf);first|exact EG|(refine B6 ?_;intros)|(refine EH ?_ ?_ ?_;rotate_left)|refine Al hb1 ?_|refine Ao GE ?_|fail)
 refine P6 true rfl ?_
 rw [if_pos rfl]
 refine Ad (FP (Kx (α:=QLs) (λ_=>[]) (λ_=>[]) [0,3] [] (λx=>x.m) (λx=>x.m.box b=some (qC s x.q true x.o x.w1 x.g x.w2)/\Ca st0 x.m x.w1 x.o.length x.w2 (2*x.g.length)/\x.q<=s.length/\p+1<=x.q/\x.o.length<=x.q/\x.g.length<=x.q/\
  gU (p+1) (EE (s.drop (p+1)))=gU x.q (EE (s.drop x.q))/\Kr (s.drop (p+1))=x.o++Kr (s.drop x.q)/\JH (p+1) (s.drop (p+1))=x.g++JH x.q (s.drop x.q))
  (λx=>s.length - x.q) ⟨p+1,[],[],w1,w2,st1⟩ ⟨hb1,hr1,by simp only [];omega,Nat.le_refl _,GT,GT,rfl,rfl,rfl⟩ Yl (St.le_refl _) ?_))
 rintro ⟨q,o,g,v1,v2,m⟩ ⟨j1,j2,j3,j4,j5,j6,U,j8,j9⟩
 dsimp only at j1 j2 j3 j4 j5 j6 U j8 j9 |-
 have hx:=KB (s.drop q)
 have hbt:∀{R:As->St->Prop},R (.ret (.int .u8 (Lk (s.drop q)))) m->PC 243 [.ptr b 0,.int .i64 0] m R:=λh=>E7 (k:=0) hl j3 Do j1 h
 by_cases hq:AV (s.drop q)=34
 .have hql:q<s.length:=B4 (k:=q) AC
  rw [kY hq] at U
  rw [kZ hq,List.append_nil] at j8
  rw [k8 hq,List.append_nil] at j9
  clear h0
  have hcd:(!Lk (s.drop q)==((e.toNat:Nat):Int))=false:=by rw [show Lk (s.drop q)=((e.toNat:Nat):Int) by omega];simp
  have hqi:¬(s.length:Int)<=(q:Int):=AC
  refine Ad (Ad (Mn Ac (Bq _) (XaB b q s.length s ((e.toNat:Nat):Int) (Lk (s.drop q))) (λ_=>m) v7 GE Yl (St.le_refl _) ?_ ?_))
  .unfold v7
   repeat' (first|refine List.forall_mem_cons.2 ⟨?_,?_⟩|exact λ_ h=>nomatch h)
   repeat' ((conv=>whnf);first|  refine Ww hqi ?_|exact EG|(refine B6 ?_;intros)|(refine EH ?_ ?_ ?_;rotate_left)|refine hbt ?_|refine Al j1 ?_|refine WJ (λ_=>?_)|refine Ao GE ?_|fail)
   all_goals conv=>whnf
   all_goals (refine ⟨Yl,?_⟩)
   all_goals exact St.le_refl _
  refine Af Ac ?_
  repeat' ((conv=>whnf);first|exact EG|(refine B6 ?_;intros)|(refine EH ?_ ?_ ?_;rotate_left)|refine Ao GE ?_|fail)
  refine Af Ac ?_
  repeat' ((conv=>whnf);first|exact EG|(refine B6 ?_;intros)|(refine EH ?_ ?_ ?_;rotate_left)|refine Al j1 ?_|refine Ao GE ?_|fail)
  rw [j8,j9] at h
  cases hT:EE (s.drop (p+1)) with
  |inl k=>rw [hT] at U;cases U
  |inr n=>
   rw [hT] at U
   have e7:p+1+n=q+1:=by injection U
   exact fin (h n hT v1 v2 _ (j2.set hb0 _) ((St.AX _ _ _).trans (congrArg some (UD AC)))) rfl
 .have hne:¬Lk (s.drop q)=((e.toNat:Nat):Int):=AC
  have hcd:(!Lk (s.drop q)==((e.toNat:Nat):Int))=true:=by rw [beq_eq_false_iff_ne.2 hne];rfl
  refine Af Ac ?_
  repeat' ((conv=>whnf);first|refine Xau hcd ?_|exact EG|(refine B6 ?_;intros)|(refine EH ?_ ?_ ?_;rotate_left)|refine hbt ?_|refine wj hl j3 hb0 j1 j2 AC AC (λe' hE st' hQ=>?_) (λv n hO u1 u2 st' g' hR hB hG=>?_)|refine Ab [(0,true),(2,true),(1,false),(3,true),(4,true),(5,true),(6,true),(7,true),(8,true),(9,true),(10,true),(11,true),(12,true),(13,true),(14,true),(15,true)] [] GE ?_|refine Ao GE ?_|fail)
  .rw [kX hq hE] at U
   cases hT:EE (s.drop (p+1)) with
   |inl k=>
    rw [hT] at U
    injection U with U
    injection U with e7 e8
    have:=h0 k.1 k.2 hT st' hQ
    rw [show p+1+k.1=q by simpa using e7,e8] at this
    exact fin this rfl
   |inr n=>rw [hT] at U;cases U
  .have hle:=J5 hO
   rw [List.length_drop] at hle
   dsimp only at hle
   rw [rJ hq hO,List.drop_drop] at U
   rw [qN hq hO,List.drop_drop] at j8
   rw [qO hq hO,List.drop_drop] at j9
   have ho:(WS o v).length<=o.length+1:=by unfold WS;split<;>simp
   have hg:g'.length<=g.length+1:=by rw [hG];split<;>simp
   conv=>whnf
   refine ⟨⟨q+n,WS o v,g',u1,u2,st'⟩,⟨hB,hR,by simp only [];omega,by simp only [];omega,by simp only [];omega,by simp only [];omega,U,?_,?_⟩,by simp only [];omega,Yl,St.le_refl _⟩
   .rw [j8]
    unfold WS
    by_cases hv1:v= -1
    .rw [if_pos hv1,if_pos hv1]
    .rw [if_neg hv1,if_neg hv1];simp
   .rw [j9,hG]
    by_cases hg0:0<Fa (s.drop q)
    .rw [if_pos hg0,if_pos ⟨rfl,hg0⟩];simp
    .rw [if_neg hg0,if_neg (λx=>hg0 x.2)]
end
section
variable {st:St} {R:As->St->Prop}
theorem jy (hl:s.length<=100000000) (hp:AV (s.drop p)=39) (hb0:st0.box b=none) (hb:st.box b=some (qC s p tx [] w1 [] w2)) (hr:Ca st0 st w1 0 w2 0)
 (h0:∀k e,L7 (s.drop (p+1))=.inl (k,e)->∀st',QB st0 st' b s false->R (.B7 (Ka (p+1+k:Nat) e)) st')
 (h:∀n,L7 (s.drop (p+1))=.inr n->∀o' w1' w2' st',Ca st0 st' w1' (List.length o') w2' 0->st'.box b=some (qC s (p+1+n) false o' w1' [] w2')->R (.ret (.int .i64 13)) st'):
 PC 201 [.ptr b 0] st R:=by
 have hpl:p<s.length:=B4 (k:=p) AC
 obtain ⟨e,he⟩:∃e,s[p]? =some e:=⟨s[p],List.getElem?_eq_getElem hpl⟩
 have he':s[(p:Int).toNat]? =some e:=he
 have hv:=CZ he
 have hv34:((e.toNat:Nat):Int)=39:=AC
 refine AM Ac [] Tryz.func201 rfl Do rfl ?_
 refine Ad (Af Ac ?_)
 repeat' ((conv=>whnf);first|exact EG|(refine B6 ?_;intros)|(refine EH ?_ ?_ ?_;rotate_left)|refine Ao GE ?_|fail)
 refine Ad (Af Ac ?_)
 repeat' ((conv=>whnf);first|exact EG|(refine B6 ?_;intros)|(refine EH ?_ ?_ ?_;rotate_left)|refine Al hb ?_|refine Ao GE ?_|fail)
 refine Ad (Af Ac ?_)
 repeat' ((conv=>whnf);first|exact EG|(refine B6 ?_;intros)|(refine EH ?_ ?_ ?_;rotate_left)|refine Al hb ?_|refine Ao GE ?_|fail)
 refine Ad (Af Ac ?_)
 repeat' ((conv=>whnf);first|exact EG|(refine B6 ?_;intros)|(refine EH ?_ ?_ ?_;rotate_left)|refine Al (St.AX _ _ _) ?_|refine Ao GE ?_|fail)
 refine dO (st':=st.Aa b (qC s (p+1) false [] w1 [] w2)) (St.K5 _ _ _ _).symm ?_
 have U:=St.AX st b (qC s (p+1) false [] w1 [] w2)
 have hr1:=hr.set hb0 (qC s (p+1) false [] w1 [] w2)
 generalize st.Aa b (qC s (p+1) false [] w1 [] w2)=st1 at U hr1
 have hx:=KB (s.drop (p+1))
 have hbt:∀{R:As->St->Prop},R (.ret (.int .u8 (Lk (s.drop (p+1))))) st1->PC 243 [.ptr b 0,.int .i64 0] st1 R:=λh=>E7 (k:=0) hl AC Do U h
 have hqb:QB st0 st1 b s false:=⟨_,[],w1,[],w2,U,hr1⟩
 by_cases hq:AV (s.drop (p+1))=39
 .have h0:=h0 0 50 (if_pos hq) st1 hqb
  clear h
  refine Af Ac ?_
  repeat' ((conv=>whnf);first|exact EG|(refine B6 ?_;intros)|(refine EH ?_ ?_ ?_;rotate_left)|refine Al U ?_|refine hbt ?_|refine GS ?_|refine Ao GE ?_|fail)
  exact fin h0 rfl
 refine Ad (Af Ac ?_)
 repeat' ((conv=>whnf);first|exact EG|(refine B6 ?_;intros)|(refine EH ?_ ?_ ?_;rotate_left)|refine Al U ?_|refine Ao GE ?_|fail)
 refine Ad (Af Ac ?_)
 repeat' ((conv=>whnf);first|exact EG|(refine B6 ?_;intros)|(refine EH ?_ ?_ ?_;rotate_left)|refine hbt ?_|refine Ao GE ?_|fail)
 refine Ad (Af Ac ?_)
 repeat' ((conv=>whnf);first|exact EG|(refine B6 ?_;intros)|(refine EH ?_ ?_ ?_;rotate_left)|refine wj (st0:=st0) hl AC hb0 U hr1 GT GT (λe' hE st' hQ=>?_) (λv n hO u1 u2 st' g' hR hB hG=>?_)|refine Ao GE ?_|fail)
 .exact fin (h0 0 e' (by unfold L7;rw [if_neg hq,hE]) st' hQ) rfl
 .have hle:=J5 hO
  rw [List.length_drop] at hle
  dsimp only at hle
  rw [if_neg (λx=>by cases x.1)] at hG
  subst hG
  have hc:L7 (s.drop (p+1))=if AV (s.drop (p+1+n))=39 then .inr (n+1) else .inl (n,50):=by
   unfold L7
   rw [if_neg hq,hO]
   show (if AV ((s.drop (p+1)).drop n)=39 then _ else _)=_
   rw [List.drop_drop]
  have hx2:=KB (s.drop (p+1+n))
  have hbt2:∀{R:As->St->Prop},R (.ret (.int .u8 (Lk (s.drop (p+1+n))))) st'->PC 243 [.ptr b 0,.int .i64 0] st' R:=λh=>E7 (k:=0) hl AC Do hB h
  clear hbt U hr1 hqb hb hr
  by_cases hq2:AV (s.drop (p+1+n))=39
  .rw [if_pos hq2] at hc
   have h:=λst'=>h _ hc (WS [] v) u1 u2 st'
   refine Af Ac ?_
   repeat' ((conv=>whnf);first|exact EG|(refine B6 ?_;intros)|(refine EH ?_ ?_ ?_;rotate_left)|refine hbt2 ?_|refine Al hB ?_|refine Ao GE ?_|fail)
   exact fin (h _ (hR.set hb0 _) ((St.AX _ _ _).trans (congrArg some (UD AC)))) rfl
  .rw [if_neg hq2] at hc
   have h0:=h0 _ _ hc st' ⟨_,_,_,_,_,hB,hR⟩
   refine Af Ac ?_
   repeat' ((conv=>whnf);first|exact EG|(refine B6 ?_;intros)|(refine EH ?_ ?_ ?_;rotate_left)|refine hbt2 ?_|refine Al hB ?_|refine GS ?_|refine Ao GE ?_|fail)
   exact fin h0 rfl
end
end Go.Proofs.Z
namespace Go.Aw
open Go
def ke (s:List UInt8) (pos:Nat):List (Nat×Nat):=if AV (s.drop pos)=34 then JH (pos+1) (s.drop (pos+1)) else []
theorem Bp {st:St} {c:Nat} {cs:List V} (h:b≠c):(st.Aa b cs).box c=st.box c:=by simp [St.Aa,Ne.symm h]
theorem EL {st:St} {c:Nat} {cs:List V} (h:(st.Aa b cs).fresh c):b≠c/\st.fresh c:=by
 by_cases e:b=c
 .subst e
  have:=h.1
  rw [St.AX] at this
  cases this
 .refine ⟨e,?_,h.2⟩
  have:=h.1
  rw [Bp e] at this
  exact this
theorem Vf {st:St} (h:∀b,st.fresh b->K b):∀b,st.fresh b->K b:=h
end Go.Aw
namespace Go.Proofs.Z
open Go Go.Aw
section
variable {st:St} {R:As->St->Prop}
attribute [local irreducible] Go.Aw.Aj
theorem Zk {b1 b2 b3:Nat} {U:St->Prop} (h:U st):HM Tryz.prog 200 [.ptr b1 0,.ptr b2 0,.ptr b3 0] none st U:=by
 refine FW Ac [] Tryz.func200 rfl rfl rfl rfl rfl rfl rfl rfl (λenv0 he=>?_)
 subst he
 conv=>whnf
 refine Ad (Af Ac ?_)
 repeat' ((conv=>whnf);first|  fail)
 all_goals exact h
theorem Pw {b1 U b3 b4 q:Nat} {e k0 e0:Int} {RS:St->Prop} (h1:st.box b1=some [.ptr b4 0]) (h4:st.box b4=some (qC s q tx o w1 g w2)) (h2:st.box U=some [.int .i64 k0]) (h3:st.box b3=some [.int .i64 e0])
 (d2:b4≠U) (d3:b4≠b3) (d5:U≠b3) (h:RS (((st.Aa b4 (qC s p tx o w1 g w2)).Aa U [.int .i64 0]).Aa b3 [.int .i64 e])):HM Tryz.prog 200 [.ptr b1 0,.ptr U 0,.ptr b3 0] (some (Ka p e)) st RS:=by
 refine FW Ac [] Tryz.func200 rfl rfl rfl rfl rfl rfl rfl rfl (λenv0 he=>?_)
 subst he
 conv=>whnf
 refine Ad (Af Ac ?_)
 repeat' ((conv=>whnf);first|exact EG|(refine EH ?_ ?_ ?_;rotate_left)|fail)
 refine Ad (Af Ac ?_)
 repeat' ((conv=>whnf);first|exact EG|(refine EH ?_ ?_ ?_;rotate_left)|fail)
 refine Ad (Af Ac ?_)
 repeat' ((conv=>whnf);first|exact EG|(refine EH ?_ ?_ ?_;rotate_left)|fail)
 have k2:∀cs,(st.Aa b4 cs).box U=some [.int .i64 k0]:=λcs=>(Bp d2).trans h2
 have k3:∀cs cs',((st.Aa b4 cs).Aa U cs').box b3=some [.int .i64 e0]:=λcs cs'=>(Bp d5).trans ((Bp d3).trans h3)
 refine Af Ac ?_
 repeat' ((conv=>whnf);first|refine Ab [(0,true),(1,true),(2,true),(3,true),(4,true),(5,true),(6,true),(7,false),(8,false),(9,false)] [] GE ?_|exact EG|(refine EH ?_ ?_ ?_;rotate_left)|refine Al h1 ?_|refine Al h4 ?_|refine Al (k2 _) ?_|refine Al (k3 _ _) ?_|fail)
 all_goals exact h
theorem v8 (hl:s.length<=100000000) (U:AV (s.drop p)=34\/AV (s.drop p)=39) (hb0:st0.box b=none) (hb:st.box b=some (qC s p tx [] w1 [] w2)) (hr:Ca st0 st w1 0 w2 0)
 (h0:∀(q:Nat) e tx',Cm s p=(0,(q:Int),e)->∀st',QB st0 st' b s tx'->R (.B7 (Ka q e)) st')
 (h:∀k (q:Nat),Cm s p=(k,(q:Int),0)->∀tx' o u1 g u2 st',g=ke s p->Ca st0 st' u1 (List.length o) u2 (2*List.length g)->st'.box b=some (qC s q tx' o u1 g u2)->R (.ret (.int .i64 k)) st'):PC 201 [.ptr b 0] st R:=by
 rcases U with U|U
 .refine jz hl U hb0 hb hr (λk e hT st' hQ=>h0 _ e true ?_ st' hQ) (λn hT u1 u2 st' hR hB=>h 14 _ ?_ _ _ _ _ _ st' (by unfold ke;rw [if_pos U]) hR hB)
  .unfold Cm;rw [if_pos U,hT]
  .unfold Cm;rw [if_pos U,hT]
 .refine jy hl U hb0 hb hr (λk e hT st' hQ=>h0 _ e false ?_ st' hQ) (λn hT o' u1 u2 st' hR hB=>h 13 _ ?_ _ _ _ _ _ st' (by unfold ke;rw [if_neg AC]) hR hB)
  .unfold Cm;rw [if_neg AC,if_pos U,hT]
  .unfold Cm;rw [if_neg AC,if_pos U,hT]
noncomputable def uI:List Oper:=match Tryz.f166.body with|some (.seq _ (.seq _ (.seq _ (.seq _ (.seq (.region _ ops _) _)))))=>ops.toList|_=>[]
noncomputable def wx (b1 U b3 b4:Nat) (K:Int) (bs:List Bool):Env:=
 {tmps:=jY [(4,.ptr b1 0),(5,.ptr U 0),(6,.ptr b3 0)] uI [.ptr b4 0,.ptr b4 0,.int .i64 K,.BR,.BR,.BR] bs,boxes:=[],BU:=1,sz:=39,gl:=[4,5,6,10]}
def z7 (b1 U b3 b4:Nat) (K:Int) (m:St) (bs:List Bool):St:=
 match bs[3]?,bs[4]?,bs[5]? with
 |_,_,some true=>((m.Aa b1 [.ptr b4 0]).Aa U [.int .i64 K]).Aa b3 [.int .i64 0]
 |_,some true,_=>(m.Aa b1 [.ptr b4 0]).Aa U [.int .i64 K]
 |some true,_,_=>m.Aa b1 [.ptr b4 0]
 |_,_,_=>m
def wy (s0 A:St) (b4:Nat) (s:List UInt8) (Q U:Int) (G:List (Nat×Nat)) (x:QLs×Bool) (bs:List Bool):Prop:=match bs[2]? with
 |some true=>Ca s0 x.1.m x.1.w1 x.1.o.length x.1.w2 (2*x.1.g.length)/\x.1.m.box b4=some (qC s x.1.q x.2 x.1.o x.1.w1 x.1.g x.1.w2)/\(x.1.q:Int)=Q/\U=0/\x.1.g=G
 |_=>x.1.m=A
def pH:List (List Bool×Nat):=[([false,false,false,false,false,false],0),([false,false,false,false,false,false],1),([true,false,false,false,false,false],1),([false,true,false,false,false,false],0),([false,true,false,false,false,false],2),([true,true,false,false,false,false],2),([false,true,true,false,false,false],0),([true,true,true,false,false,false],3),([true,true,true,true,false,false],4),([true,true,true,true,true,false],5)]
noncomputable def pI:Code:=match Tryz.f166.body with|some (.seq _ (.seq _ (.seq _ (.seq _ r))))=>r|_=>.skip
theorem ki {s0:St} {b1 b2 b3 b4:Nat} (hl:s.length<=100000000) (hq:AV (s.drop pos)=34\/AV (s.drop pos)=39) (hs0:s0.box b4=none) (hsl:st.le s0) (n12:b1≠b2) (n13:b1≠b3) (n14:b1≠b4) (n23:b2≠b3) (n24:b2≠b4) (n34:b3≠b4) (k1:st.box b1=none) (k2:st.box b2=none) (k3:st.box b3=none) (k4:st.box b4=none)
 (m1:s0.box b1=some [.ptr b4 0]) (m2:s0.box b2=some [.int .i64 0]) (m3:s0.box b3=some [.int .i64 0])
 (h:∀b4 (q:Nat) tx o w1 g w2 st',st.le st'->st'.box b4=some (qC s q tx o w1 g w2)->(q:Int)=(Cm s pos).2.1->((Cm s pos).1≠0->g=ke s pos)->R (.ret (.Bc [.ptr b4 0,.int .i64 (Cm s pos).1,.int .i64 (Cm s pos).2.2])) st'):
 AW Tryz.prog pI (cn Tryz.prog zj 200 [.ptr b1 0,.ptr b2 0,.ptr b3 0] Tryz.f166 (Go.Aw.Ends R)) (wx b1 b2 b3 b4 (Cm s pos).1 (List.replicate 6 false)) (s0.Aa b4 (qC s pos false [] .full [] .full)):=by
 have a1:∀C,(s0.Aa b4 C).box b1=some [.ptr b4 0]:=λC=>(Bp n14.symm).trans m1
 have hr0:Ca s0 (s0.Aa b4 (qC s pos false [] .full [] .full)) .full 0 .full 0:=⟨trivial,trivial,trivial,trivial,trivial,St.Ag (St.le_refl _) hs0 _⟩
 refine Ad (rT Ac (Bq _) (λ_ bs=>wx b1 b2 b3 b4 (Cm s pos).1 bs) (λx bs=>z7 b1 b2 b3 b4 (Cm s pos).1 x.1.m bs) (λx bs=>wy s0 (s0.Aa b4 (qC s pos false [] .full [] .full)) b4 s (Cm s pos).2.1 (Cm s pos).2.2 (ke s pos) x bs) (⟨pos,[],[],.full,.full,s0.Aa b4 (qC s pos false [] .full [] .full)⟩,false) pH GE rfl Yl (St.le_refl _) ?_ ?_)
 .unfold pH
  repeat' (first|refine List.forall_mem_cons.2 ⟨?_,?_⟩|exact List.forall_mem_nil _)
  all_goals rintro ⟨⟨q,o,g,w1,w2,m⟩,tx⟩ hj
  all_goals dsimp only [wy,List.getElem?_cons_zero,List.getElem?_cons_succ] at hj
  all_goals try subst hj
  .skip
   repeat' ((conv=>whnf);first|  refine Al (a1 _) ?_|fail)
   all_goals conv=>whnf
   all_goals exact ⟨(⟨q,o,g,w1,w2,_⟩,tx),rfl,Yl,St.le_refl _⟩
  .skip
   repeat' ((conv=>whnf);first|  refine Al (a1 _) ?_|fail)
   all_goals conv=>whnf
   all_goals exact ⟨(⟨q,o,g,w1,w2,_⟩,tx),rfl,Yl,St.le_refl _⟩
  .skip
   repeat' ((conv=>whnf);first|  refine Al (a1 _) ?_|fail)
   all_goals conv=>whnf
   all_goals exact ⟨(⟨q,o,g,w1,w2,_⟩,tx),rfl,Yl,St.le_refl _⟩
  .skip
   repeat' ((conv=>whnf);first|  refine Al (a1 _) ?_|fail)
   all_goals conv=>whnf
   all_goals exact ⟨(⟨q,o,g,w1,w2,_⟩,tx),rfl,Yl,St.le_refl _⟩
  .skip
   repeat' ((conv=>whnf);first|  refine v8 hl hq hs0 (St.AX ..) hr0 (λq' e' U hz st' hQ=>?_) (λk q' hz U o' u1 g' u2 st' hg hR hB=>?_)|refine Al (a1 _) ?_|fail)
   .obtain ⟨q1,o1,u1,g1,u2,hB,hR⟩:=hQ
    conv=>whnf
    refine Pw (hR.le.1 _ _ m1) hB (hR.le.1 _ _ m2) (hR.le.1 _ _ m3) n24.symm n34.symm n23 ?_
    have c1:(((st'.Aa b4 (qC s q' U o1 u1 g1 u2)).Aa b2 [.int .i64 0]).Aa b3 [.int .i64 e']).box b1=some [.ptr b4 0]:=(Bp n13.symm).trans ((Bp n12.symm).trans ((Bp n14.symm).trans (hR.le.1 _ _ m1)))
    have c2:(((st'.Aa b4 (qC s q' U o1 u1 g1 u2)).Aa b2 [.int .i64 0]).Aa b3 [.int .i64 e']).box b2=some [.int .i64 0]:=(Bp n23.symm).trans (St.AX _ _ _)
    have c3:(((st'.Aa b4 (qC s q' U o1 u1 g1 u2)).Aa b2 [.int .i64 0]).Aa b3 [.int .i64 e']).box b3=some [.int .i64 e']:=St.AX _ _ _
    have c4:(((st'.Aa b4 (qC s q' U o1 u1 g1 u2)).Aa b2 [.int .i64 0]).Aa b3 [.int .i64 e']).box b4=some (qC s q' U o1 u1 g1 u2):=(Bp n34).trans ((Bp n24).trans (St.AX _ _ _))
    have c5:(Cm s pos).1=0:=by rw [hz]
    have c6:(Cm s pos).2.1=q':=by rw [hz]
    have c7:(Cm s pos).2.2=e':=by rw [hz]
    have gg:=λle=>h b4 q' U o1 u1 g1 u2 _ le c4 c6.symm (λx=>absurd c5 x)
    rw [c5,c7] at gg
    clear h hz c4 c5 c6 c7
    repeat' ((conv=>whnf);first|  refine Al c1 ?_|refine Al c2 ?_|refine Al c3 ?_|fail)
    exact fin (gg (St.Ag (St.Ag (St.Ag (St.le_trans hsl hR.le) k4 _) k2 _) k3 _)) rfl
   .have hz1:(Cm s pos).1=k:=by rw [hz]
    have hz2:(Cm s pos).2.1=q':=by rw [hz]
    have hz3:(Cm s pos).2.2=0:=by rw [hz]
    conv=>whnf
    rw [hz1,hz2]
    exact ⟨(⟨q',o',g',u1,u2,st'⟩,U),⟨hR,hB,rfl,hz3,hg⟩,Yl,St.le_refl _⟩
  .skip
   repeat' ((conv=>whnf);first|  refine v8 hl hq hs0 (St.AX ..) hr0 (λq' e' U hz st' hQ=>?_) (λk q' hz U o' u1 g' u2 st' hg hR hB=>?_)|refine Al (a1 _) ?_|fail)
   .obtain ⟨q1,o1,u1,g1,u2,hB,hR⟩:=hQ
    conv=>whnf
    refine Pw (hR.le.1 _ _ m1) hB (hR.le.1 _ _ m2) (hR.le.1 _ _ m3) n24.symm n34.symm n23 ?_
    have c1:(((st'.Aa b4 (qC s q' U o1 u1 g1 u2)).Aa b2 [.int .i64 0]).Aa b3 [.int .i64 e']).box b1=some [.ptr b4 0]:=(Bp n13.symm).trans ((Bp n12.symm).trans ((Bp n14.symm).trans (hR.le.1 _ _ m1)))
    have c2:(((st'.Aa b4 (qC s q' U o1 u1 g1 u2)).Aa b2 [.int .i64 0]).Aa b3 [.int .i64 e']).box b2=some [.int .i64 0]:=(Bp n23.symm).trans (St.AX _ _ _)
    have c3:(((st'.Aa b4 (qC s q' U o1 u1 g1 u2)).Aa b2 [.int .i64 0]).Aa b3 [.int .i64 e']).box b3=some [.int .i64 e']:=St.AX _ _ _
    have c4:(((st'.Aa b4 (qC s q' U o1 u1 g1 u2)).Aa b2 [.int .i64 0]).Aa b3 [.int .i64 e']).box b4=some (qC s q' U o1 u1 g1 u2):=(Bp n34).trans ((Bp n24).trans (St.AX _ _ _))
    have c5:(Cm s pos).1=0:=by rw [hz]
    have c6:(Cm s pos).2.1=q':=by rw [hz]
    have c7:(Cm s pos).2.2=e':=by rw [hz]
    have gg:=λle=>h b4 q' U o1 u1 g1 u2 _ le c4 c6.symm (λx=>absurd c5 x)
    rw [c5,c7] at gg
    clear h hz c4 c5 c6 c7
    repeat' ((conv=>whnf);first|  refine Al c1 ?_|refine Al c2 ?_|refine Al c3 ?_|fail)
    exact fin (gg (St.Ag (St.Ag (St.Ag (St.le_trans hsl hR.le) k4 _) k2 _) k3 _)) rfl
   .have hz1:(Cm s pos).1=k:=by rw [hz]
    have hz2:(Cm s pos).2.1=q':=by rw [hz]
    have hz3:(Cm s pos).2.2=0:=by rw [hz]
    conv=>whnf
    rw [hz1,hz2]
    exact ⟨(⟨q',o',g',u1,u2,st'⟩,U),⟨hR,hB,rfl,hz3,hg⟩,Yl,St.le_refl _⟩
  .have b1':m.box b1=some [.ptr b4 0]:=hj.1.le.1 _ _ m1
   repeat' ((conv=>whnf);first|  refine Al b1' ?_|fail)
   all_goals conv=>whnf
   all_goals exact ⟨(⟨q,o,g,w1,w2,m⟩,tx),hj,Yl,St.le_refl _⟩
  .have b1':m.box b1=some [.ptr b4 0]:=hj.1.le.1 _ _ m1
   repeat' ((conv=>whnf);first|  refine Al b1' ?_|fail)
   all_goals conv=>whnf
   all_goals exact ⟨(⟨q,o,g,w1,w2,m⟩,tx),hj,Yl,St.le_refl _⟩
  .have b2':(m.Aa b1 [.ptr b4 0]).box b2=some [.int .i64 0]:=(Bp n12).trans (hj.1.le.1 _ _ m2)
   repeat' ((conv=>whnf);first|  refine Al b2' ?_|fail)
   all_goals conv=>whnf
   all_goals exact ⟨(⟨q,o,g,w1,w2,m⟩,tx),hj,Yl,St.le_refl _⟩
  .have b3':((m.Aa b1 [.ptr b4 0]).Aa b2 [.int .i64 (Cm s pos).1]).box b3=some [.int .i64 0]:=(Bp n23).trans ((Bp n13).trans (hj.1.le.1 _ _ m3))
   repeat' ((conv=>whnf);first|  refine Al b3' ?_|fail)
   all_goals conv=>whnf
   all_goals exact ⟨(⟨q,o,g,w1,w2,m⟩,tx),hj,Yl,St.le_refl _⟩
 .rintro ⟨⟨q,o,g,w1,w2,m⟩,tx⟩ ⟨j1,j2,j3,j0,jg⟩
  dsimp only at j1 j2 j3 j0
  have c1:(((m.Aa b1 [.ptr b4 0]).Aa b2 [.int .i64 (Cm s pos).1]).Aa b3 [.int .i64 0]).box b1=some [.ptr b4 0]:=(Bp n13.symm).trans ((Bp n12.symm).trans (St.AX _ _ _))
  have c2:(((m.Aa b1 [.ptr b4 0]).Aa b2 [.int .i64 (Cm s pos).1]).Aa b3 [.int .i64 0]).box b2=some [.int .i64 (Cm s pos).1]:=(Bp n23.symm).trans (St.AX _ _ _)
  have c3:(((m.Aa b1 [.ptr b4 0]).Aa b2 [.int .i64 (Cm s pos).1]).Aa b3 [.int .i64 0]).box b3=some [.int .i64 0]:=St.AX _ _ _
  have c4:(((m.Aa b1 [.ptr b4 0]).Aa b2 [.int .i64 (Cm s pos).1]).Aa b3 [.int .i64 0]).box b4=some (qC s q tx o w1 g w2):=(Bp n34).trans ((Bp n24).trans ((Bp n14).trans j2))
  have gg:=λle=>h b4 q tx o w1 g w2 _ le c4 j3 (λ_=>jg)
  rw [j0] at gg
  clear h
  show AW _ _ _ _ _
  refine Af Ac (Zk ?_)
  repeat' ((conv=>whnf);first|  refine Al c1 ?_|refine Al c2 ?_|refine Al c3 ?_|fail)
  exact fin (gg (St.Ag (St.Ag (St.Ag (St.le_trans hsl j1.le) k1 _) k2 _) k3 _)) rfl
theorem yA (hl:s.length<=100000000) (hp:pos<=s.length)
 (h:∀b4 (q:Nat) tx o w1 g w2 st',st.le st'->st'.box b4=some (qC s q tx o w1 g w2)->(q:Int)=(Cm s pos).2.1->((Cm s pos).1≠0->g=ke s pos)->R (.ret (.Bc [.ptr b4 0,.int .i64 (Cm s pos).1,.int .i64 (Cm s pos).2.2])) st'):PC 166 [.str s,.int .i64 pos] st R:=by
 refine Bo.ends (TK Ac [4,5,6,10] Tryz.func166 rfl Do rfl rfl rfl rfl rfl rfl ⟨_,Tryz.func200,rfl,Do⟩ rfl ?_)
 refine Af Ac ?_
 repeat' ((conv=>whnf);first|  (refine B6 ?_;intros)|(refine Cv ?_ ?_<;>intro _)|refine Vf (λb3 f3=>?_)|fail)
 rename_i b1 f1 b2 f2
 obtain ⟨n12,f2a⟩:=EL f2
 obtain ⟨n23,f3a⟩:=EL f3
 obtain ⟨n13,f3b⟩:=EL f3a
 refine Af Ac ?_
 have kk:∀b4 cs,((((st.Aa b1 [V.Eu]).Aa b2 [V.int .i64 0]).Aa b3 [V.int .i64 0]).fresh b4)->((((st.Aa b1 [V.Eu]).Aa b2 [V.int .i64 0]).Aa b3 [V.int .i64 0]).Aa b4 cs).box b1=some [V.Eu]:=λb4 cs f4=>by
  obtain ⟨m3,f4a⟩:=EL f4
  obtain ⟨m2,f4b⟩:=EL f4a
  obtain ⟨m1,f4c⟩:=EL f4b
  simp [St.Aa,m1,n12,n13]
 repeat' ((conv=>whnf);first|  (refine B6 ?_;intros)|(refine Cv ?_ ?_<;>intro _)|refine Vf (λb4 f4=>?_)|refine Al (kk _ _ f4) ?_|fail)
 obtain ⟨n34,f4a⟩:=EL f4
 obtain ⟨n24,f4b⟩:=EL f4a
 obtain ⟨n14,f4c⟩:=EL f4b
 obtain ⟨s0,hs0,hsl,m1,m2,m3,hst⟩:∃s0:St,s0.box b4=none/\st.le s0/\s0.box b1=some [.ptr b4 0]/\s0.box b2=some [.int .i64 0]/\s0.box b3=some [.int .i64 0]/\
  s0.Aa b4 (qC s pos false [] .full [] .full)=(((((st.Aa b1 [V.Eu]).Aa b2 [V.int .i64 0]).Aa b3 [V.int .i64 0]).Aa b4 (qC s pos false [] .full [] .full)).Aa b1 [.ptr b4 0]):=by
  refine ⟨((st.Aa b1 [.ptr b4 0]).Aa b2 [.int .i64 0]).Aa b3 [.int .i64 0],?_,St.Ag (St.Ag (St.Ag (St.le_refl _) f1.1 _) f2a.1 _) f3b.1 _,?_,?_,?_,?_⟩
  .simp [St.Aa,n14.symm,n24.symm,n34.symm];exact f4c.1
  .simp [St.Aa,n12,n13]
  .simp [St.Aa,n23]
  .simp [St.Aa]
  .simp only [St.Aa,St.mk.injEq,and_true]
   funext x
   by_cases x1:x=b1
   .subst x1;simp [n12,n13,n14]
   .by_cases x4:x=b4
    .subst x4;simp [x1]
    .simp [x1,x4]
 refine dO (st':=s0.Aa b4 (qC s pos false [] .full [] .full)) hst ?_
 clear kk f4 f4a f4b f3 f3a f2 hst
 have a1:∀C,(s0.Aa b4 C).box b1=some [.ptr b4 0]:=λC=>(Bp n14.symm).trans m1
 by_cases hq:AV (s.drop pos)=34\/AV (s.drop pos)=39
 .have hlt:pos<s.length:=B4 (k:=pos) AC
  obtain ⟨e,he⟩:∃e,s[pos]? =some e:=⟨s[pos],List.getElem?_eq_getElem hlt⟩
  have he':s[(pos:Int).toNat]? =some e:=he
  have hv:=CZ he
  refine Af Ac ?_
  repeat' ((conv=>whnf);first|  (refine B6 ?_;intros)|(refine Cv ?_ ?_<;>intro _)|fail)
  all_goals conv=>whnf
  all_goals refine ⟨rfl,AY rfl ?_⟩
  all_goals exact dP (ki hl hq hs0 (St.le_trans hsl (St.le_refl _)) n12 n13 n14 n23 n24 n34 f1.1 f2a.1 f3b.1 f4c.1 m1 m2 m3 h) Yl (St.le_refl _)
 .have hz:Cm s pos=(0,0,0):=by unfold Cm;rw [if_neg (λx=>hq (.inl x)),if_neg (λx=>hq (.inr x))]
  rw [hz] at h
  have a1':∀C U,((s0.Aa b4 C).Aa b4 U).box b1=some [.ptr b4 0]:=λC U=>(Bp n14.symm).trans (a1 C)
  have a2':∀C U D,(((s0.Aa b4 C).Aa b4 U).Aa b1 D).box b2=some [.int .i64 0]:=λC U D=>(Bp n12).trans ((Bp n24.symm).trans ((Bp n24.symm).trans m2))
  have a3':∀C U D F,((((s0.Aa b4 C).Aa b4 U).Aa b1 D).Aa b2 F).box b3=some [.int .i64 0]:=λC U D F=>(Bp n23).trans ((Bp n13).trans ((Bp n34.symm).trans ((Bp n34.symm).trans m3)))
  have e3:∀C U D F G,(((((s0.Aa b4 C).Aa b4 U).Aa b1 D).Aa b2 F).Aa b3 G).box b3=some G:=λC U D F G=>St.AX _ _ _
  have e2:∀C U D F G,(((((s0.Aa b4 C).Aa b4 U).Aa b1 D).Aa b2 F).Aa b3 G).box b2=some F:=λC U D F G=>(Bp n23.symm).trans (St.AX _ _ _)
  have e1:∀C U D F G,(((((s0.Aa b4 C).Aa b4 U).Aa b1 D).Aa b2 F).Aa b3 G).box b1=some D:=λC U D F G=>(Bp n13.symm).trans ((Bp n12.symm).trans (St.AX _ _ _))
  have e4:∀C U D F G,(((((s0.Aa b4 C).Aa b4 U).Aa b1 D).Aa b2 F).Aa b3 G).box b4=some U:=λC U D F G=>(Bp n34).trans ((Bp n24).trans ((Bp n14).trans (St.AX _ _ _)))
  by_cases hlt:pos<s.length
  .obtain ⟨e,he⟩:∃e,s[pos]? =some e:=⟨s[pos],List.getElem?_eq_getElem hlt⟩
   have he':s[(pos:Int).toNat]? =some e:=he
   have hv:=CZ he
   refine Af Ac ?_
   repeat' ((conv=>whnf);first|  (refine B6 ?_;intros)|(refine Cv ?_ ?_<;>intro _)|refine Al (a1 _) ?_|refine Al (St.AX _ _ _) ?_|refine Al (a1' _ _) ?_|refine Al (a2' _ _ _) ?_|refine Al (a3' _ _ _ _) ?_|refine Al (e1 _ _ _ _ _) ?_|refine Al (e2 _ _ _ _ _) ?_|refine Al (e3 _ _ _ _ _) ?_|fail)
   exact fin (h b4 0 false [] .full [] .full _ (St.Ag (St.Ag (St.Ag (St.Ag (St.Ag hsl f4c.1 _) f4c.1 _) f1.1 _) f2a.1 _) f3b.1 _) (e4 _ _ _ _ _) rfl (λx=>absurd rfl x)) rfl
  .skip
   refine Af Ac ?_
   repeat' ((conv=>whnf);first|  (refine B6 ?_;intros)|(refine Cv ?_ ?_<;>intro _)|refine Al (a1 _) ?_|refine Al (St.AX _ _ _) ?_|refine Al (a1' _ _) ?_|refine Al (a2' _ _ _) ?_|refine Al (a3' _ _ _ _) ?_|refine Al (e1 _ _ _ _ _) ?_|refine Al (e2 _ _ _ _ _) ?_|refine Al (e3 _ _ _ _ _) ?_|fail)
   exact fin (h b4 0 false [] .full [] .full _ (St.Ag (St.Ag (St.Ag (St.Ag (St.Ag hsl f4c.1 _) f4c.1 _) f1.1 _) f2a.1 _) f3b.1 _) (e4 _ _ _ _ _) rfl (λx=>absurd rfl x)) rfl
end
section
variable {st:St} {R:As->St->Prop}
attribute [local irreducible] Go.Aw.Aj
theorem uH (hl:s.length<=100000000) (hp:pos<s.length) (h:R (.ret (.Bc [.int .i64 (Cm s pos).1,.int .i64 (Cm s pos).2.1,.int .i64 (Cm s pos).2.2])) st):PC 123 [.str s,.int .i64 pos] st R:=by
 refine pB Tryz.func123 ?_
 repeat' ((conv=>whnf);first|exact EG|(refine EH ?_ ?_ ?_;rotate_left)|refine yA hl (Nat.le_of_lt hp) (λb4 q tx o w1 g w2 st' U hb hq _=>?_)|refine Al hb ?_|refine Ao GE ?_|fail)
 all_goals rw [<-hq] at h
 all_goals exact EK U rfl h
end
theorem su {c:Nat} {e:UInt8} (U:(c,m)=Ba (s.drop pos)) (he:s[pos]? =some e):e.toNat=39↔c=39:=by
 rw [drop_at he] at U
 by_cases h:e.toNat<128
 .rw [JR h] at U
  injection U with h1 h2
  rw [h1]
 .have h2:=Nc (r:=s.drop (pos+1)) h
  rw [<-U] at h2
  dsimp only at h2
  constructor<;>intro<;>omega
theorem RI {c:Nat} (U:(c,m)=Ba (s.drop pos)) (h:pos<s.length):B3 (s.drop pos)=AA c:=by
 rw [List.drop_eq_getElem_cons h] at U |-
 show AA ((Ba _).1:Nat)=_
 rw [<-U]
theorem RV {c:Int}:D1 c=true↔(AA c=2\/AA c=3\/AA c=4\/c=39):=by
 simp only [D1,Bool.or_eq_true,beq_iff_eq];omega
theorem bV {c:Int} (h:¬(AA c=2\/AA c=3\/AA c=4\/c=39)):D1 c=false:=by
 rw [<-Bool.not_eq_true,RV];exact h
section
variable {st:St} {R:As->St->Prop}
theorem Qz {i:Nat} (hl:s.length<=100000000) (h0:i<=s.length) (h:R (.ret (.int .i64 (i+Cr (s.drop i):Nat))) st):PC 263 [.str s,.int .i64 i] st R:=by
 refine pB Tryz.func263 ?_
 repeat' ((conv=>whnf);first|(refine B6 ?_;intros)|(refine Cv ?_ ?_<;>intro _)|fail)
 refine OG (α:=Nat) (λpos=>[(1,.int .i64 (pos:Int))]) [0] [] (λ_=>st) (λpos=>pos<=s.length/\i+Cr (s.drop i)=pos+BD D1 (s.drop pos)) (λpos=>s.length - pos) i ⟨h0,rfl⟩ Yl (St.le_refl _) ?_
 rintro pos ⟨hp,hi⟩
 rcases U:Ba (s.drop pos) with ⟨c,m⟩
 have U:=U.symm
 have hr:=gj U
 repeat' ((conv=>whnf);first|(refine B6 ?_;intros)|(refine Cv ?_ ?_<;>intro _)|refine wv U AC AC ?_)
 all_goals try have e39:=su U (show s[pos]? =some _ by assumption)
 all_goals first
  |(have hin:D1 (c:Int)=true:=RV.2 AC
    conv=>whnf
    exact ⟨pos+m,⟨AC,LI (p:=λd=>D1 (d.1:Nat)) AC U hin hi⟩,AC,Yl,St.le_refl _⟩)
  |(have:=K8 (p:=λd=>D1 (d.1:Nat)) AC hi
    exact fin h (Bt (by unfold Cr BD at *;omega)))
  |(have hin:D1 (c:Int)=false:=bV AC
    have:=N4 (p:=λd=>D1 (d.1:Nat)) U hin hi
    exact fin h (Bt (by unfold Cr BD at *;omega)))
theorem pE (hl:s.length<=100000000) (hp:pos<=1000000000) (h:∀m:Int,R (.ret (.Bc [.int .i64 (B3 (s.drop pos)),.int .i64 m])) st):PC 264 [.str s,.int .i64 pos] st R:=by
 by_cases h1:pos<s.length
 .rcases U:Ba (s.drop pos) with ⟨c,m⟩
  have U:=U.symm
  refine wv U h1 AC ?_
  rw [<-RI U h1]
  exact h _
 .refine fQ AC AC AC ?_
  have:=h 0
  rw [List.drop_eq_nil_iff.2 AC] at this
  exact this
end
theorem W5 (h:B3 l=3):Ar l=(2,Cr l):=by unfold Ar;rw [if_neg AC,if_neg AC,if_pos h]
theorem Qv (h:B3 l=2):Ar l=(if TM (l.take (Cr l)) then 9 else 1,Cr l):=by unfold Ar;rw [if_neg AC,if_neg AC,if_neg AC,if_pos h]
theorem Qw (h:B3 l=5):Ar l=(H6 (l.take (BD (λc=>AA c==5) l)),BD (λc=>AA c==5) l):=by unfold Ar;rw [if_neg AC,if_pos h]
theorem fG (h:B3 l=6):Ar l=(15,1):=by unfold Ar;rw [if_pos h]
theorem fF (h:B3 l≠6) (h1:B3 l≠5) (h2:B3 l≠3) (h3:B3 l≠2):Ar l=(0,0):=by unfold Ar;rw [if_neg h,if_neg h1,if_neg h2,if_neg h3]
theorem gC (w:List UInt8):H6 w=10\/H6 w=6\/H6 w=5:=by
 unfold H6
 split
 .exact .inl rfl
 .split
  .exact .inr (.inl rfl)
  .exact .inr (.inr rfl)
theorem gr (h:B3 (s.drop pos)=5):pos<s.length/\1<=BD (λc=>AA c==5) (s.drop pos):=by
 have U:pos<s.length:=by
  by_cases U:pos<s.length
  .exact U
  .rw [List.drop_eq_nil_iff.2 AC] at h;exact absurd h Do
 rcases hd:Ba (s.drop pos) with ⟨c,m⟩
 have hr:=rune_le U hd.symm
 rw [RI hd.symm U] at h
 refine ⟨U,?_⟩
 rw [UK (Qg U) (by rw [hd];exact beq_iff_eq.2 h),hd]
 omega
section
variable {st:St} {R:As->St->Prop}
theorem fY (e:i=n) (hl:s.length<=100000000) (U:n<=s.length) (h:R (.ret (.int .i64 (n+Cr (s.drop n):Nat))) st):PC 263 [.str s,.int .i64 i] st R:=by
 subst e;exact Qz hl U h
theorem pF (e:i=n) (hl:s.length<=100000000) (U:n<=1000000000) (h:∀m:Int,R (.ret (.Bc [.int .i64 (B3 (s.drop n)),.int .i64 m])) st):PC 264 [.str s,.int .i64 i] st R:=by
 subst e;exact pE hl U h
theorem yM (e:i=n) (hl:s.length<=100000000) (U:n<=s.length) (h:R (.ret (.int .i64 (n+BD (λc=>AA c==k) (s.drop n):Nat))) st):PC 206 [.str s,.int .i64 i,.int .i64 k] st R:=by
 subst e;exact qb hl U h
theorem Sy {w:List UInt8} {a b:Int} (U:a=n) (e2:b=(n+m:Nat)) (hw:(s.drop n).take m=w) (h0:0<m) (hm:n<s.length) (h:R (.ret (.int .i64 (H6 w))) st):PC 337 [.str ((s.take b.toNat).drop a.toNat)] st R:=by
 subst U;subst e2
 have e:(s.take ((n+m:Nat):Int).toNat).drop (n:Int).toNat=w:=by
  rw [show ((n+m:Nat):Int).toNat=n+m by omega,show (n:Int).toNat=n by omega,List.drop_take,Nat.add_sub_cancel_left];exact hw
 rw [e]
 refine cT ?_ h
 rw [<-hw]
 intro e
 have:=congrArg List.length e
 rw [List.length_take,List.length_drop,List.length_nil] at this
 omega
theorem dW {w:List UInt8} {l:List (List UInt8)} {own:AH} {a b:Int} (U:a=n) (e2:b=(n+m:Nat)) (hw:(s.drop n).take m=w) (h:R (.ret (.bool (l.contains w))) st):PC 338 [.slice 1 (strs l) own,.str ((s.take b.toNat).drop a.toNat)] st R:=by
 subst U;subst e2
 have e:(s.take ((n+m:Nat):Int).toNat).drop (n:Int).toNat=w:=by
  rw [show ((n+m:Nat):Int).toNat=n+m by omega,show (n:Int).toNat=n by omega,List.drop_take,Nat.add_sub_cancel_left];exact hw
 rw [e]
 exact dV h
theorem Tp {i:Nat} {j:Int} (e:AO (s.drop i)=(k,n)) (hk:k≠0) (U:j=(i+n:Nat)):As.ret (.Bc [.int .i64 (AO (s.drop i)).1,.int .i64 (i+(AO (s.drop i)).2:Nat)])=As.ret (.Bc [.int .i64 k,.int .i64 j]):=by rw [e,U]
theorem tg {i:Nat} (hl:s.length<=100000000) (hi:i<s.length) (hf:B3 (s.drop i)=3) (h:R (.ret (.Bc [.int .i64 (AO (s.drop i)).1,.int .i64 (i+(AO (s.drop i)).2:Nat)])) st):PC 340 [.str s,.int .i64 i] st R:=by
 have hw:AO (s.drop i)=Co (s.drop i) (Cr (s.drop i)) 2:=by unfold AO;rw [W5 hf]
 have hn:Cr (s.drop i)<=(s.drop i).length:=Dz _ _
 rw [List.length_drop] at hn
 refine pB Tryz.func340 ?_
 repeat' ((conv=>whnf);first|exact EG|(refine B6 ?_;intros)|(refine EH ?_ ?_ ?_;rotate_left)|(refine Cv ?_ ?_<;>intro _)|refine Qz hl AC ?_|refine Ab [(1,true),(2,true),(3,true),(4,true),(5,true),(0,false),(6,false),(7,true)] [] GE ?_|fail)
 refine KT (α:=Nat) (β:=Int) (λp k=>[(7,.int .i64 (p:Int)),(6,.int .i64 k)]) (λ_ _=>[]) [0] [] (λ_ _=>st)
  (λp k=>i<=p/\p<=s.length/\(k=2\/k=4)/\AO (s.drop i)=Co (s.drop i) (p - i) k) (λp _=>s.length - p) (i+Cr (s.drop i)) 2 ⟨AC,AC,.inl rfl,by rw [Nat.add_sub_cancel_left];exact hw⟩ Yl (St.le_refl _) ?_
 rintro p k ⟨h0,h1,h2,h3⟩
 obtain ⟨n,rfl⟩:∃n,p=i+n:=⟨p - i,AC⟩
 rw [Nat.add_sub_cancel_left] at h3
 have hdd:∀m,(s.drop i).drop m=s.drop (i+m):=λm=>List.drop_drop
 have hlen:(s.drop i).length=s.length - i:=List.length_drop
 have hno:¬(n<(s.drop i).length/\(k=2\/k=4)/\AV ((s.drop i).drop n)=46/\BZ (Ar ((s.drop i).drop (n+1))).1≠0)->AO (s.drop i)=(k,n):=λe=>h3.trans (EB e)
 have hgo:n<(s.drop i).length->AV ((s.drop i).drop n)=46->BZ (Ar ((s.drop i).drop (n+1))).1≠0->AO (s.drop i)=Co (s.drop i) (n+1+(Ar ((s.drop i).drop (n+1))).2) (BZ (Ar ((s.drop i).drop (n+1))).1):=λe1 U e3=>h3.trans (SP e1 ⟨h2,U,e3⟩)
 rw [hdd,hdd,<-Nat.add_assoc,hlen] at hno hgo
 have hn1:Cr (s.drop (i+n+1))<=(s.drop (i+n+1)).length:=Dz _ _
 have hs1:=Dz (λc=>AA c==5) (s.drop (i+n+1))
 rw [List.length_drop] at hn1 hs1
 have hso:=gC ((s.drop (i+n+1)).take (BD (λc=>AA c==5) (s.drop (i+n+1))))
 have hs5:=λh=>gr (s:=s) (pos:=i+n+1) h
 repeat' ((conv=>whnf);first|exact EG|(refine B6 ?_;intros)|(refine EH ?_ ?_ ?_;rotate_left)|(refine Cv ?_ ?_<;>intro _)|refine pF (n:=i+n+1) AC hl AC (λ_=>?_)|refine fY (n:=i+n+1) AC hl AC ?_|refine gO ?_|refine dW (n:=i+n+1) (m:=Cr (s.drop (i+n+1))) AC AC rfl ?_|refine yM (n:=i+n+1) AC hl AC ?_|refine Sy (n:=i+n+1) (m:=BD (λc=>AA c==5) (s.drop (i+n+1))) AC AC rfl AC AC ?_|refine Ab [(1,true),(2,true),(3,true),(4,true),(5,true),(0,false),(6,false),(7,true)] [] GE ?_|fail)
 all_goals try have f0:=CZ (show s[i+n]? =some _ by assumption)
 .have e:=W5 (l:=s.drop (i+n+1)) ‹_›
  rw [e] at hgo
  have U:=hgo AC AC (show BZ 2≠0 by decide)
  conv=>whnf
  exact ⟨(i+n+1+Cr (s.drop (i+n+1)),4),⟨RL,RL,.inr rfl,by dsimp only;rw [U,show i+n+1+Cr (s.drop (i+n+1)) - i=n+1+Cr (s.drop (i+n+1)) by omega];rfl⟩,RL,Yl,St.le_refl _⟩
 .have e:=Qv (l:=s.drop (i+n+1)) ‹_›
  rw [if_pos (show TM _=true by assumption)] at e
  have U:=hno (λx=>x.2.2.2 (by rw [e];show BZ 9=0;decide))
  exact fin h (by rw [U])
 .have e:=Qv (l:=s.drop (i+n+1)) ‹_›
  have hb:¬TM ((s.drop (i+n+1)).take (Cr (s.drop (i+n+1))))=true:=by rw [Bool.not_eq_true];assumption
  rw [if_neg hb] at e
  rw [e] at hgo
  have U:=hgo AC AC (show BZ 1≠0 by decide)
  rw [EB (by rintro ⟨_,x,_⟩;exact absurd x (show ¬(BZ 1=2\/BZ 1=4) by decide))] at U
  exact fin h (Tp U Do AC)
 .have e:=Qw (l:=s.drop (i+n+1)) ‹_›
  rw [show H6 _=5 by assumption] at e
  rw [e] at hgo
  have U:=hgo AC AC (show BZ 5≠0 by decide)
  rw [EB (by rintro ⟨_,x,_⟩;exact absurd x (show ¬(BZ 5=2\/BZ 5=4) by decide))] at U
  exact fin h (Tp U Do AC)
 .have e:=Qw (l:=s.drop (i+n+1)) ‹_›
  rw [show H6 _=6 by assumption] at e
  rw [e] at hgo
  have U:=hgo AC AC (show BZ 6≠0 by decide)
  rw [EB (by rintro ⟨_,x,_⟩;exact absurd x (show ¬(BZ 6=2\/BZ 6=4) by decide))] at U
  exact fin h (Tp U Do AC)
 .have e:=Qw (l:=s.drop (i+n+1)) ‹_›
  have hs:H6 ((s.drop (i+n+1)).take (BD (λc=>AA c==5) (s.drop (i+n+1))))=10:=AC
  rw [hs] at e
  have U:=hno (λx=>x.2.2.2 (by rw [e];show BZ 10=0;decide))
  exact fin h (by rw [U])
 .have U:=hno (λx=>x.2.2.2 (by
   by_cases h6:B3 (s.drop (i+n+1))=6
   .rw [fG h6];show BZ 15=0;decide
   .rw [fF h6 ‹_› ‹_› ‹_›];show BZ 0=0;decide))
  exact fin h (by rw [U])
 .have U:=hno (λx=>by omega)
  exact fin h (by rw [U])
 .have U:=hno (λx=>x.2.2.2 (by rw [List.drop_eq_nil_iff.2 AC];show BZ (Ar []).1=0;decide))
  exact fin h (by rw [U])
theorem LR {i:Nat} {j:Int} (e:AO (s.drop i)=(k,n)) (hk:k≠0) (U:j=(i+n:Nat)):As.ret (.Bc [.int .i64 (CT s i).1,.int .i64 (CT s i).2])=As.ret (.Bc [.int .i64 k,.int .i64 j]):=by
 unfold CT;rw [e,if_neg hk,U]
theorem qg (h:k≠0):(Co s n k).1≠0:=by
 fun_induction Co s n k with
 |case1 n k hn U ih=>exact ih U.2.2
 |case2 n k hn U=>exact h
 |case3 n k hn=>exact h
theorem ZI (hl:s.length<=100000000) (hp:pos<s.length) (h:R (.ret (.Bc [.int .i64 (CT s pos).1,.int .i64 (CT s pos).2])) st):PC 304 [.str s,.int .i64 pos] st R:=by
 have hn:Cr (s.drop pos)<=(s.drop pos).length:=Dz _ _
 have hs1:=Dz (λc=>AA c==5) (s.drop pos)
 rw [List.length_drop] at hn hs1
 have hs5:=λh=>gr (s:=s) (pos:=pos) h
 have hso:=gC ((s.drop pos).take (BD (λc=>AA c==5) (s.drop pos)))
 have hw:AO (s.drop pos)=Co (s.drop pos) (Ar (s.drop pos)).2 (Ar (s.drop pos)).1:=rfl
 have U:¬((Ar (s.drop pos)).1=2\/(Ar (s.drop pos)).1=4)->AO (s.drop pos)=((Ar (s.drop pos)).1,(Ar (s.drop pos)).2):=λe=>by rw [hw,EB (λx=>e x.2.1)]
 refine pB Tryz.func304 ?_
 by_cases hf:B3 (s.drop pos)=3
 .skip
  have hk:(AO (s.drop pos)).1≠0:=by rw [hw,W5 hf];exact qg (show (2:Int)≠0 by decide)
  repeat' ((conv=>whnf);first|exact EG|(refine B6 ?_;intros)|(refine EH ?_ ?_ ?_;rotate_left)|(refine Cv ?_ ?_<;>intro _)|refine pE hl AC (λ_=>?_)|refine tg hl hp hf ?_|refine Ab [(1,true),(2,true),(3,true),(4,true),(0,false),(5,false)] [] GE ?_|fail)
  exact fin h (by unfold CT;rw [if_neg hk])
 .skip
  repeat' ((conv=>whnf);first|exact EG|(refine B6 ?_;intros)|(refine EH ?_ ?_ ?_;rotate_left)|(refine Cv ?_ ?_<;>intro _)|refine pE hl AC (λ_=>?_)|refine Qz hl AC ?_|refine gO ?_|refine dW (n:=pos) (m:=Cr (s.drop pos)) AC AC rfl ?_|refine qb hl AC ?_|refine Sy (n:=pos) (m:=BD (λc=>AA c==5) (s.drop pos)) AC AC rfl AC AC ?_|refine Ab [(1,true),(2,true),(3,true),(4,true),(0,false),(5,false)] [] GE ?_|fail)
  .have e:=fG (l:=s.drop pos) ‹_›
   rw [e] at U
   exact fin h (LR (U (show ¬((15:Int)=2\/(15:Int)=4) by decide)) Do AC)
  .have e:=Qw (l:=s.drop pos) ‹_›
   rw [e] at U
   have e2:=U RL
   exact fin h (LR e2 AC AC)
  .have e:=Qv (l:=s.drop pos) ‹_›
   rw [if_pos (show TM _=true by assumption)] at e
   rw [e] at U
   exact fin h (LR (U (show ¬((9:Int)=2\/(9:Int)=4) by decide)) Do AC)
  .have e:=Qv (l:=s.drop pos) ‹_›
   have hb:¬TM ((s.drop pos).take (Cr (s.drop pos)))=true:=by rw [Bool.not_eq_true];assumption
   rw [if_neg hb] at e
   rw [e] at U
   exact fin h (LR (U (show ¬((1:Int)=2\/(1:Int)=4) by decide)) Do AC)
  .have e:=fF (l:=s.drop pos) ‹_› ‹_› hf ‹_›
   rw [e] at U
   have e2:=U (show ¬((0:Int)=2\/(0:Int)=4) by decide)
   exact fin h (by unfold CT;rw [e2];rfl)
end
end Go.Proofs.Z
namespace Go.Aw
open Go
theorem Sx (h:(BV l).1≠10):DO l=(11,2+Bx (BV l).1 (l.drop 2)):=if_pos h
theorem cQ (h:(BV l).1=10) (k:Bx 10 l=0):DO l=(0,0):=by unfold DO;rw [if_neg (λe=>e h),if_pos k]
theorem WG {f e:Nat} (h:(BV l).1=10) (hn:Bx 10 l=n) (U:n≠0) (hf:HV (l.drop n)=f) (he:Jg (l.drop (n+f))=e):DO l=(if 0<f\/0<e then 12 else 11,n+f+e):=by
 subst hn;subst hf;subst he
 unfold DO;rw [if_neg (λe=>e h),if_neg U]
theorem fJ {b:Int} (h:BV l=(b,2)):AV l=48/\2<=l.length:=by
 unfold BV at h
 split at h
 .rename_i U
  refine ⟨U.1,?_⟩
  have:=U.2.2
  have h1:=C5 (D8 l) (l.drop 2)
  rw [List.length_drop] at h1
  omega
 .injection h with _ h;cases h
def Gs (s:List UInt8) (pos:Nat):Int×Int:=if (DO (s.drop pos)).1=0 then (0,0) else ((DO (s.drop pos)).1,(pos+(DO (s.drop pos)).2:Nat))
end Go.Aw
namespace Go.Proofs.Z
open Go Go.Aw
section
variable {st:St} {R:As->St->Prop}
theorem zz (e:i.toNat=n) (h:R (.ret (.bool (decide (AV (s.drop n)=46)))) st):PC 73 [.str (s.drop i.toNat),.str [46]] st R:=by
 refine Jy ?_
 rw [Ds,e]
 exact h
theorem bE (e:i.toNat=n) (U:s.length<=4611686018427387903) (h:R (.ret (.int .i64 (Jg (s.drop n):Nat))) st):PC 199 [.str (s.drop i.toNat)] st R:=by
 rw [e];exact bD IR h
theorem pY {b:Int} (e:i.toNat=n) (U:s.length<=4611686018427387903) (h:R (.ret (.int .i64 (Bx b (s.drop n):Nat))) st):PC 198 [.str (s.drop i.toNat),.int .i64 b] st R:=by
 rw [e];exact wD IR h
theorem wF {b:Int} {v:Nat} (e:i.toNat=n) (hv:Bx b (s.drop n)=v) (U:s.length<=4611686018427387903) (h:R (.ret (.int .i64 v)) st):PC 198 [.str (s.drop i.toNat),.int .i64 b] st R:=
 pY e U (by rw [hv];exact h)
theorem Ru {v:Nat} (e:i.toNat=n) (hv:Jg (s.drop n)=v) (U:s.length<=4611686018427387903) (h:R (.ret (.int .i64 v)) st):PC 199 [.str (s.drop i.toNat)] st R:=
 bE e U (by rw [hv];exact h)
theorem Qs (U:DO s=(k,n)) (e2:i.toNat=n):As.ret (.Bc [.int .i64 (DO s).1,.str (s.take (DO s).2)])=As.ret (.Bc [.int .i64 k,.str (s.take i.toNat)]):=by rw [U,e2]
theorem o7 (U:DO s=(0,0)):As.ret (.Bc [.int .i64 (DO s).1,.str (s.take (DO s).2)])=As.ret (.Bc [.int .i64 0,.str []]):=by rw [U];rfl
theorem J8 {b:Int} (hp:BV s=(b,n)) (U:s.length<=4611686018427387903) (h:R (.ret (.Bc [.int .i64 b,.int .i64 n])) st):PC 197 [.str s] st R:=
 da U (by rw [hp];exact h)
theorem fy (hl:s.length<=4611686018427387903) (h:R (.ret (.Bc [.int .i64 (DO s).1,.str (s.take (DO s).2)])) st):PC 165 [.str s] st R:=by
 have hle:=We s
 refine pB Tryz.func165 ?_
 rcases H2 s with hp|⟨hp,_⟩|⟨hp,_⟩
 .have h1:=C5 10 s
  have h2:=RN (s.drop (Bx 10 s))
  have h3:=Vz (s.drop (Bx 10 s+HV (s.drop (Bx 10 s))))
  rw [List.length_drop] at h2 h3
  generalize hr:Bx 10 s=r at h1 h2 h3
  have hr0:Bx 10 (s.drop 0)=r:=hr
  generalize hf:HV (s.drop r)=f at h2 h3
  generalize he:Jg (s.drop (r+f))=e at h3
  have h4:=C5 10 (s.drop (r+1))
  have e0:(BV s).1=10:=by rw [hp]
  have hlt:=bt s r
  have hfd:(AV (s.drop r)=46/\Bx 10 (s.drop (r+1))≠0/\f=1+Bx 10 (s.drop (r+1)))\/((AV (s.drop r)≠46\/Bx 10 (s.drop (r+1))=0)/\f=0):=by
   rw [<-hf]
   unfold HV
   rw [List.drop_drop]
   split<;>omega
  rw [List.length_drop] at h4
  generalize hd:Bx 10 (s.drop (r+1))=d at h4 hfd
  repeat' ((conv=>whnf);first|exact EG|(refine B6 ?_;intros)|(refine EH ?_ ?_ ?_;rotate_left)|(refine Cv ?_ ?_<;>intro _)|refine J8 hp hl ?_|refine wF AC hr0 hl ?_|refine wF AC hd hl ?_|refine zz (n:=r) AC ?_|refine Ru AC he hl ?_|refine Ru AC he' hl ?_|refine Ao GE ?_|fail)
  all_goals first
   |(have U:=cQ e0 AC;exact fin h (o7 U))
   |(have U:=WG e0 hr AC hf he;rw [if_pos AC] at U;exact fin h (Qs U AC))
   |(have U:=WG e0 hr AC hf he;rw [if_neg AC] at U;exact fin h (Qs U AC))
 .have hr:=C5 8 (s.drop 2)
  have h2:=(fJ hp).2
  rw [List.length_drop] at hr
  repeat' ((conv=>whnf);first|exact EG|(refine B6 ?_;intros)|(refine EH ?_ ?_ ?_;rotate_left)|(refine Cv ?_ ?_<;>intro _)|refine J8 hp hl ?_|refine pY (n:=2) AC hl ?_|refine Ao GE ?_|fail)
  all_goals (have U:=Sx (l:=s) (by rw [hp];decide);rw [hp] at U;dsimp only at U;exact fin h (Qs U AC))
 .have hr:=C5 16 (s.drop 2)
  have h2:=(fJ hp).2
  rw [List.length_drop] at hr
  repeat' ((conv=>whnf);first|exact EG|(refine B6 ?_;intros)|(refine EH ?_ ?_ ?_;rotate_left)|(refine Cv ?_ ?_<;>intro _)|refine J8 hp hl ?_|refine pY (n:=2) AC hl ?_|refine Ao GE ?_|fail)
  all_goals (have U:=Sx (l:=s) (by rw [hp];decide);rw [hp] at U;dsimp only at U;exact fin h (Qs U AC))
theorem o0 (hl:s.length<=4611686018427387903) (hp:pos<s.length) (h:R (.ret (.Bc [.int .i64 (Gs s pos).1,.int .i64 (Gs s pos).2])) st):PC 122 [.str s,.int .i64 pos] st R:=by
 have hw:=We (s.drop pos)
 have ht:((s.drop pos).take (DO (s.drop pos)).2).length=(DO (s.drop pos)).2:=Nm
 rw [List.length_drop] at hw
 have U:(s.drop pos).length<=4611686018427387903:=IR
 refine pB Tryz.func122 ?_
 repeat' ((conv=>whnf);first|(refine B6 ?_;intros)|(refine Cv ?_ ?_<;>intro _)|refine fy U ?_)
 .exact fin h (by unfold Gs;rw [if_pos ‹_›];simp_all)
 .exact fin h (by unfold Gs;rw [if_neg ‹_›];simp only [];rw [show (pos:Int).toNat=pos by omega] at *;rw [ht];rfl)
end
section
variable {st:St} {R:As->St->Prop}
theorem HR {b:Int} {v:Nat} (e:i=n) (hv:Bx b (s.drop n)=v) (U:s.length<=4611686018427387903) (hn:n<=4611686018427387905) (h:R (.ret (.int .i64 (n+v:Nat))) st):PC 303 [.str s,.int .i64 i,.int .i64 b] st R:=by
 subst e
 exact kf U hn (by rw [hv];exact h)
theorem jM (h:Bx 10 (s.drop pos)=0):Gs s pos=(0,0):=by
 have e:DO (s.drop pos)=(0,0):=by
  refine cQ ?_ h
  unfold BV
  rw [if_neg]
  rintro ⟨h1,_⟩
  have U:pos<s.length:=B4 (k:=pos) AC
  rw [List.drop_eq_getElem_cons U] at h1 h
  have h1:((s[pos].toNat:Nat):Int)=48:=h1
  rw [Bx,h1,if_neg Do] at h
  cases h
 unfold Gs;rw [e];rfl
theorem Lw (h:DO (s.drop pos)=(k,n)) (U:k≠0) (hi:i=(pos+n:Nat)):As.ret (.Bc [.int .i64 (Gs s pos).1,.int .i64 (Gs s pos).2])=As.ret (.Bc [.int .i64 k,.int .i64 i]):=by
 unfold Gs;rw [h,if_neg U,hi]
theorem yH (hl:s.length<=4611686018427387903) (hp:pos<s.length) (h:R (.ret (.Bc [.int .i64 (Gs s pos).1,.int .i64 (Gs s pos).2])) st):PC 260 [.str s,.int .i64 pos] st R:=by
 have h1:=C5 10 (s.drop pos)
 rw [List.length_drop] at h1
 generalize hr:Bx 10 (s.drop pos)=r at h1
 refine AM Ac [] Tryz.func260 rfl Do rfl ?_
 refine Ad (Af Ac ?_)
 repeat' ((conv=>whnf);first|(refine B6 ?_;intros)|(refine Cv ?_ ?_<;>intro _)|fail)
 refine Ad (Af Ac ?_)
 repeat' ((conv=>whnf);first|(refine B6 ?_;intros)|(refine Cv ?_ ?_<;>intro _)|refine HR AC hr hl AC ?_)
 .exact fin h (by rw [jM AC])
 have hr0:r≠0:=AC
 refine U0 (α:=Unit) (λ_=>{tmps:=[(0,.str s),(1,.int .i64 (pos:Int))],boxes:=[],BU:=0,sz:=149,gl:=[]}) (λ_=>st) (λ_=>(BV (s.drop pos)).1=10) (λ_ e0=>?_) (Af Ac ?_)
 .have h2:=RN (s.drop (pos+r))
  rw [List.length_drop] at h2
  have hlt:=bt s (pos+r)
  have h4:=C5 10 (s.drop (pos+r+1))
  rw [List.length_drop] at h4
  generalize hf:HV (s.drop (pos+r))=f at h2
  generalize hd:Bx 10 (s.drop (pos+r+1))=d at h4
  have hfd:(AV (s.drop (pos+r))=46/\d≠0/\f=1+d)\/((AV (s.drop (pos+r))≠46\/d=0)/\f=0):=by
   rw [<-hf,<-hd]
   unfold HV
   rw [List.drop_drop]
   split<;>omega
  refine Ad (Af Ac ?_)
  repeat' ((conv=>whnf);first|(refine B6 ?_;intros)|(refine Cv ?_ ?_<;>intro _)|fail)
  refine Ad (Af Ac ?_)
  repeat' ((conv=>whnf);first|(refine B6 ?_;intros)|(refine Cv ?_ ?_<;>intro _)|refine HR AC hr hl AC ?_)
  refine U0 (α:=Int×Nat) (λp=>{tmps:=[(0,.str s),(1,.int .i64 (pos:Int)),(7,.int .i64 p.1),(8,.int .i64 (p.2:Int))],boxes:=[],BU:=0,sz:=149,gl:=[]}) (λ_=>st) (λp=>p.1=(if f=0 then 11 else 12)/\p.2=pos+r+f) ?_ (Af Ac ?_)
  .rintro ⟨k,n⟩ ⟨hk,hn⟩
   dsimp only at hk hn |-
   subst hk;subst hn
   have h3:=Vz (s.drop (pos+r+f))
   rw [List.length_drop] at h3
   have e1:=WG (f:=f) e0 hr hr0 (by rw [List.drop_drop];exact hf) rfl
   rw [List.drop_drop,<-Nat.add_assoc] at e1
   have ha:=C5 10 (s.drop (pos+r+f+1))
   have hb:=C5 10 (s.drop (pos+r+f+2))
   rw [List.length_drop] at ha hb
   generalize hra:Bx 10 (s.drop (pos+r+f+1))=ra at ha
   generalize hrb:Bx 10 (s.drop (pos+r+f+2))=rb at hb
   have d1:(s.drop (pos+r+f)).drop 1=s.drop (pos+r+f+1):=List.drop_drop
   have d2:(s.drop (pos+r+f)).drop 2=s.drop (pos+r+f+2):=List.drop_drop
   have hx:((AV (s.drop (pos+r+f))=101\/AV (s.drop (pos+r+f))=69)/\(AV (s.drop (pos+r+f+1))=43\/AV (s.drop (pos+r+f+1))=45)/\rb≠0->Jg (s.drop (pos+r+f))=2+rb)/\
    ((AV (s.drop (pos+r+f))=101\/AV (s.drop (pos+r+f))=69)/\¬(AV (s.drop (pos+r+f+1))=43\/AV (s.drop (pos+r+f+1))=45)/\ra≠0->Jg (s.drop (pos+r+f))=1+ra)/\
    (¬(AV (s.drop (pos+r+f))=101\/AV (s.drop (pos+r+f))=69)->Jg (s.drop (pos+r+f))=0)/\
    ((AV (s.drop (pos+r+f))=101\/AV (s.drop (pos+r+f))=69)/\(AV (s.drop (pos+r+f+1))=43\/AV (s.drop (pos+r+f+1))=45)/\rb=0->Jg (s.drop (pos+r+f))=0)/\
    ((AV (s.drop (pos+r+f))=101\/AV (s.drop (pos+r+f))=69)/\¬(AV (s.drop (pos+r+f+1))=43\/AV (s.drop (pos+r+f+1))=45)/\ra=0->Jg (s.drop (pos+r+f))=0):=
    ⟨λk=>by rw [Vy (j:=2) k.1 (by rw [d1,QG k.2.1]) (by rw [d2,hrb];exact k.2.2),d2,hrb],
     λk=>by rw [Vy (j:=1) k.1 (by rw [d1,QF k.2.1]) (by rw [d1,hra];exact k.2.2),d1,hra],
     λk=>eI k,
     λk=>Vx (j:=2) k.1 (by rw [d1,QG k.2.1]) (by rw [d2,hrb];exact k.2.2),
     λk=>Vx (j:=1) k.1 (by rw [d1,QF k.2.1]) (by rw [d1,hra];exact k.2.2)⟩
   generalize hx0:Jg (s.drop (pos+r+f))=x at hx h3 e1
   refine Af Ac ?_
   repeat' ((conv=>whnf);first|(refine B6 ?_;intros)|(refine Cv ?_ ?_<;>intro _)|refine HR AC hra hl AC ?_|refine HR AC hrb hl AC ?_)
   all_goals try have f0:=CZ (show s[pos+r+f]? =some _ by assumption)
   all_goals try have f0:=Ey (s:=s) (i:=pos+r+f) AC
   all_goals try have f1:=CZ (show s[pos+r+f+1]? =some _ by assumption)
   all_goals try have f1:=Ey (s:=s) (i:=pos+r+f+1) AC
   all_goals first
    |(have hq:0<x:=by omega
      rw [if_pos (.inr hq)] at e1
      exact fin h (Lw e1 Do AC))
    |(have hq:x=0:=by omega
      have e2:DO (s.drop pos)=(if f=0 then 11 else 12,r+f+x):=by rw [e1];congr 1;(split<;>split<;>first|rfl|omega)
      exact fin h (Lw e2 (by split<;>decide) AC))
  .skip
   repeat' ((conv=>whnf);first|(refine B6 ?_;intros)|(refine Cv ?_ ?_<;>intro _)|refine HR AC hd hl AC ?_)
   all_goals try have f0:=CZ (show s[pos+r]? =some _ by assumption)
   all_goals try have f0:=Ey (s:=s) (i:=pos+r) AC
   .have:f=1+d:=AC
    conv=>whnf
    exact ⟨(12,pos+r+1+d),⟨(if_neg AC).symm,RL⟩,Yl,St.le_refl _⟩
   all_goals have:f=0:=AC
   all_goals conv=>whnf
   all_goals exact ⟨(11,pos+r),⟨(if_pos this).symm,RL⟩,Yl,St.le_refl _⟩
 .have h8:=C5 8 (s.drop (pos+2))
  have h16:=C5 16 (s.drop (pos+2))
  rw [List.length_drop] at h8 h16
  generalize hr8:Bx 8 (s.drop (pos+2))=r8 at h8
  generalize U:Bx 16 (s.drop (pos+2))=r16 at h16
  have d1:(s.drop pos).drop 1=s.drop (pos+1):=List.drop_drop
  have d2:(s.drop pos).drop 2=s.drop (pos+2):=List.drop_drop
  have p8:AV (s.drop pos)=48->(AV (s.drop (pos+1))=111\/AV (s.drop (pos+1))=79)->r8≠0->DO (s.drop pos)=(11,2+r8):=λk1 k2 k3=>by
   have e:=HL k1 (Qb (by rw [d1];exact k2)) Do (by rw [d2,hr8];exact k3)
   rw [Sx (by rw [e];decide),e,d2,hr8]
  have p16:AV (s.drop pos)=48->(AV (s.drop (pos+1))=120\/AV (s.drop (pos+1))=88)->r16≠0->DO (s.drop pos)=(11,2+r16):=λk1 k2 k3=>by
   have e:=HL k1 (MZ (by rw [d1];exact k2)) Do (by rw [d2,U];exact k3)
   rw [Sx (by rw [e];decide),e,d2,U]
  have p10:(AV (s.drop pos)≠48\/(AV (s.drop (pos+1))≠111/\AV (s.drop (pos+1))≠79/\AV (s.drop (pos+1))≠120/\AV (s.drop (pos+1))≠88)\/((AV (s.drop (pos+1))=111\/AV (s.drop (pos+1))=79)/\r8=0)\/((AV (s.drop (pos+1))=120\/AV (s.drop (pos+1))=88)/\r16=0))->(BV (s.drop pos)).1=10:=λk=>by
   rcases k with k|k|k|k
   .rw [G4 (.inl k)]
   .rw [G4 (.inr (.inl (XV (by rw [d1];exact k))))]
   .rw [G4 (.inr (.inr (by rw [Qb (by rw [d1];exact k.1),d2,hr8];exact k.2)))]
   .rw [G4 (.inr (.inr (by rw [MZ (by rw [d1];exact k.1),d2,U];exact k.2)))]
  repeat' ((conv=>whnf);first|(refine B6 ?_;intros)|(refine Cv ?_ ?_<;>intro _)|refine HR AC hr8 hl AC ?_|refine HR AC U hl AC ?_)
  all_goals try have f0:=CZ (show s[pos]? =some _ by assumption)
  all_goals try have f1:=CZ (show s[pos+1]? =some _ by assumption)
  all_goals try have f1:=Ey (s:=s) (i:=pos+1) AC
  all_goals first
   |exact fin h (Lw (p8 AC AC AC) Do AC)
   |exact fin h (Lw (p16 AC AC AC) Do AC)
   |(have e0:=p10 AC
     conv=>whnf
     exact ⟨(),e0,Yl,St.le_refl _⟩)
end
end Go.Proofs.Z
namespace Go.Aw
open Go
def Ck (s:List UInt8) (p:Nat):Int×Int×Int:=
 if (Gs s p).1≠0 then ((Gs s p).1,(Gs s p).2,0)
 else if (Cm s p).1=0/\(Cm s p).2.2=0 then
  if (CT s p).1=0 then (0,p,70) else ((CT s p).1,(CT s p).2,0)
 else Cm s p
def Qn (s:List UInt8) (p sp:Nat) (U BT:Int) (AL notes:List (List V)) (w1 w2:AH) (Fp ends:Int) (j:Bool):List V:=
 [.str s,.int .i64 p,.int .i64 sp,.int .i64 U,.int .i64 BT,.slice 4 AL w1,.slice 5 notes w2,.int .i64 Fp,.int .i64 ends,.bool j]
end Go.Aw
namespace Go.Proofs.Z
open Go Go.Aw
section
variable {st:St} {R:As->St->Prop}
theorem x8 {BT ends:Int} {AL:List (List V)} (hl:s.length<=100000000) (U:p<s.length) (hb:st.box b=some (Qn s p sp ln BT AL notes w1 w2 Fp ends j))
 (h:R (.ret (.agg [.int .i64 (Gs s p).1,.int .i64 (Gs s p).2,.int .i64 0])) st):PC 77 [.ptr b 0] st R:=by
 refine pB Tryz.func77 ?_
 repeat' ((conv=>whnf);first|exact Bi|(refine Bj ?_ ?_ ?_;rotate_left)|refine Al hb ?_|refine o0 AC U ?_|refine Ab [(0,true),(1,true),(2,true),(3,true),(4,true),(5,true),(6,true),(7,true),(8,false),(9,true),(10,true),(11,true),(12,true),(13,true)] [] GE ?_|fail)
 all_goals exact fin h rfl
theorem yc {BT ends:Int} {AL:List (List V)} (U:s.length<=100000000) (hp:p<s.length) (hb:st.box b=some (Qn s p sp ln BT AL notes w1 w2 Fp ends j))
 (h:R (.ret (.agg [.int .i64 (CT s p).1,.int .i64 (CT s p).2,.int .i64 0])) st):PC 79 [.ptr b 0] st R:=by
 refine pB Tryz.func79 ?_
 repeat' ((conv=>whnf);first|exact Bi|(refine Bj ?_ ?_ ?_;rotate_left)|refine Al hb ?_|refine rm U hp ?_|refine Ab [(0,true),(1,true),(2,true),(3,true),(4,true),(5,true),(6,true),(7,true),(8,false),(9,true),(10,true),(11,true),(12,true),(13,true)] [] GE ?_|fail)
 all_goals exact fin h rfl
theorem x7 {BT ends:Int} {AL:List (List V)} (U:s.length<=100000000) (hp:p<s.length) (hb:st.box b=some (Qn s p sp ln BT AL notes w1 w2 Fp ends j))
 (h:R (.ret (.agg [.int .i64 (Cm s p).1,.int .i64 (Cm s p).2.1,.int .i64 (Cm s p).2.2])) st):PC 78 [.ptr b 0] st R:=by
 refine pB Tryz.func78 ?_
 repeat' ((conv=>whnf);first|exact Bi|(refine Bj ?_ ?_ ?_;rotate_left)|refine Al hb ?_|refine uH U hp ?_|refine Ab [(0,true),(1,true),(2,true),(3,true),(4,true),(5,true),(6,true),(7,true),(8,false),(9,true),(10,true),(11,true),(12,true),(13,true),(14,true),(15,true)] [] GE ?_|fail)
 all_goals exact fin h rfl
theorem oi {BT ends:Int} {AL:List (List V)} (hl:s.length<=100000000) (hp:p<s.length) (hb:st.box b=some (Qn s p sp ln BT AL notes w1 w2 Fp ends j))
 (h:R (.ret (.agg [.int .i64 (Ck s p).1,.int .i64 (Ck s p).2.1,.int .i64 (Ck s p).2.2])) st):PC 50 [.ptr b 0] st R:=by
 refine pB Tryz.func50 ?_
 have U:∀a b c,Ck s p=(a,b,c)->R (.ret (.agg [.int .i64 a,.int .i64 b,.int .i64 c])) st:=λa b c e=>by rw [e] at h;exact h
 clear h
 unfold Ck at U
 repeat' ((conv=>whnf);first|(refine AE ?_;intros)|(refine Bb ?_ ?_<;>intro _)|refine x8 hl hp hb ?_|refine x7 hl hp hb ?_|refine yc hl hp hb ?_|refine Al hb ?_)
 .exact fin (U _ _ _ (by rw [if_neg AC,if_pos ⟨AC,AC⟩,if_pos AC])) rfl
 .exact fin (U _ _ _ (by rw [if_neg AC,if_pos ⟨AC,AC⟩,if_neg AC])) rfl
 .exact fin (U _ _ _ (by rw [if_neg AC,if_neg (λx=>by omega)])) rfl
 .exact fin (U _ _ _ (by rw [if_neg AC,if_neg (λx=>by omega)])) rfl
 .exact fin (U _ _ _ (by rw [if_pos AC])) rfl
end
section
variable {st:St} {R:As->St->Prop}
theorem X1 {BT:Int} (h:R (.ret (.bool (decide (¬k=15)|| !Lib.contains [123,125,59] t))) st):PC 80 [.agg [.int .i64 k,.str t,.int .i64 ln,.int .i64 BT]] st R:=by
 refine pB Tryz.func80 ?_
 repeat' ((conv=>whnf);first|  (refine Bb ?_ ?_<;>intro _)|refine bj Do ?_)
 all_goals first
  |exact AB h (by simp [*])
  |(rename_i U _;exact AB h (by simp [U]))
theorem M5 {U BT ends:Int} {AL:List (List V)} (hl:s.length<=100000000) (hp:p<=s.length) (hb:st.box b=some (Qn s p sp U BT AL notes w1 w2 Fp ends j))
 (h:R (.ret (.Bc [])) (st.Aa b (Qn s (p+BD (λc=>AA c==1) (s.drop p)) sp U BT AL notes w1 w2 Fp ends j))):PC 47 [.ptr b 0] st R:=by
 refine pB Tryz.func47 ?_
 repeat' ((conv=>whnf);first|refine Ab [(0,true),(1,true),(2,true),(3,true),(4,true),(5,true),(6,true),(7,true),(8,true),(9,false),(10,true),(11,true),(12,false)] [] GE ?_|exact Bi|(refine Bj ?_ ?_ ?_;rotate_left)|refine Al hb ?_|refine LC hl hp rfl rfl ?_|fail)
 all_goals exact fin h rfl
end
end Go.Proofs.Z
namespace Go.Aw
open Go
def Br (s:List UInt8) (a b:Nat):List UInt8:=(s.take b).drop a
theorem W4 {a:Nat} {K:List UInt8->Prop} (h1:a<=b) (h2:b<=s.length) (k:K (Br s a b)):
 (0<=(a:Int)/\(a:Int)<=b/\(b:Int)<=s.length)/\∀s',s'=(s.take (b:Int).toNat).drop (a:Int).toNat->K s':=
 ⟨⟨AC,AC,AC⟩,λs' e=>by
   rw [show (b:Int).toNat=b by omega,show (a:Int).toNat=a by omega] at e
   subst e;exact k⟩
end Go.Aw
namespace Go.Proofs.Z
open Go Go.Aw
section
variable {st:St} {R:As->St->Prop}
theorem XaH {q:Nat} {BT ends:Int} {AL:List (List V)} (hl:s.length<=100000000) (hsp:sp<=q) (hq:q<=s.length) (hln:1<=ln/\ln<=1000000000) (U:1<=BT/\BT<=2147483648)
 (hw:1<=(Cf (Br s sp q) (Br s sp q).length (1,1)).1/\(Cf (Br s sp q) (Br s sp q).length (1,1)).1<=1000000000)
 (hb:st.box b=some (Qn s p sp ln BT AL notes w1 w2 Fp ends j))
 (h:R (.ret (.Bc [.int .i64 (ln+(Cf (Br s sp q) (Br s sp q).length (1,1)).1 - 1),.int .i64 (Cf (Br s sp q) (Br s sp q).length (1,BT)).2]))
   (st.Aa b (Qn s p q (ln+(Cf (Br s sp q) (Br s sp q).length (1,1)).1 - 1) (Cf (Br s sp q) (Br s sp q).length (1,BT)).2 AL notes w1 w2 Fp ends j))):PC 76 [.ptr b 0,.int .i64 q] st R:=by
 have hpl:(Br s sp q).length<=100000000:=by unfold Br;rw [List.length_drop,List.length_take];omega
 have b2:∀cs,(st.Aa b cs).box b=some cs:=λcs=>St.AX _ _ _
 refine pB Tryz.func76 ?_
 repeat' ((conv=>whnf);first|exact Bi|(refine AE ?_;intros)|(refine Bj ?_ ?_ ?_;rotate_left)|refine W4 hsp hq ?_|refine (λ(_:(Br s sp q).length<DR)=>?_)|refine zY hpl (Nat.le_refl _) ?_|refine vE hpl U.1 U.2 ?_|refine Al hb ?_|refine Al (b2 _) ?_|refine Ao GE ?_|fail)
 all_goals exact fin h rfl
end
end Go.Proofs.Z
namespace Go.Aw
open Go
def CM (s:List UInt8) (a b:Nat) (p:Int×Int):Int×Int:=Cf (Br s a b) (Br s a b).length p
theorem Jx {a:Nat} (h1:a<=b) (h2:b<=s.length):(Br s a b).length=b - a:=by
 unfold Br;rw [List.length_drop,List.length_take];omega
theorem fE {a:Nat} {p:Int×Int} (h1:a<=b) (h2:b<=s.length) (h:1<=p.2):p.1<=(CM s a b p).1/\(CM s a b p).1<=p.1+(b - a:Nat)/\1<=(CM s a b p).2/\(CM s a b p).2<=p.2+8*(b - a:Nat):=by
 have:=Tm _ (Br s a b) (Br s a b).length p (Nat.le_refl _) h
 rw [Jx h1 h2] at this
 unfold CM
 rw [Jx h1 h2]
 omega
end Go.Aw
namespace Go.Proofs.Z
open Go Go.Aw
section
variable {st:St} {R:As->St->Prop}
theorem vl {q:Nat} {U BT ends:Int} {AL:List (List V)} (hl:s.length<=100000000) (hsp:sp<=q) (hq:q<=s.length) (hln:1<=U/\U<=1000000000) (hcol:1<=BT/\BT<=2147483648)
 (hb:st.box b=some (Qn s p sp U BT AL notes w1 w2 Fp ends j))
 (h:R (.ret (.Bc [.int .i64 (CM s sp q (U,BT)).1,.int .i64 (CM s sp q (U,BT)).2]))
   (st.Aa b (Qn s p q (CM s sp q (U,BT)).1 (CM s sp q (U,BT)).2 AL notes w1 w2 Fp ends j))):PC 76 [.ptr b 0,.int .i64 q] st R:=by
 have hlen:=Jx hsp hq
 have h1:=Tm _ (Br s sp q) (Br s sp q).length (1,1) (Nat.le_refl _) Do
 have h2:=UY _ (Br s sp q) (Br s sp q).length 1 1 BT U (Nat.le_refl _)
 have h3:=aA _ (Br s sp q) (Br s sp q).length 1 BT U (Nat.le_refl _)
 have e1:U+(Cf (Br s sp q) (Br s sp q).length (1,1)).1 - 1=(CM s sp q (U,BT)).1:=by unfold CM;omega
 have e2:(Cf (Br s sp q) (Br s sp q).length (1,BT)).2=(CM s sp q (U,BT)).2:=h3
 refine XaH hl hsp hq hln hcol ⟨by dsimp only at h1;omega,by dsimp only at h1;omega⟩ hb ?_
 rw [e1,e2]
 exact h
end
end Go.Proofs.Z
namespace Go.Aw
open Go
theorem ri {a:Nat} (h:B8 l a) (k:Nat) (p:Int×Int):Cf l (a+k) p=Cf (l.drop a) k (Cf l a p):=by
 induction h generalizing p with
 |zero l=>rw [GH,Nat.zero_add,List.drop_zero]
 |@step l j U h ih=>
  rw [Fm U AC,Fm (k:=A7 l+j) U AC,show A7 l+j+k - A7 l=j+k by omega,show A7 l+j - A7 l=j by omega,ih,List.drop_drop]
theorem KP (h:0<m):AV (l.take m)=AV l:=by
 cases l with
 |nil=>rw [List.take_nil]
 |cons a r=>
  obtain ⟨m,rfl⟩:∃k,m=k+1:=⟨m - 1,AC⟩
  rfl
theorem Ul:AV ((l.take m).drop 1)=if 1<m then AV (l.drop 1) else -1:=by
 rw [List.drop_take]
 by_cases h:1<m
 .rw [if_pos h,KP AC]
 .rw [if_neg h,show m - 1=0 by omega,List.take_zero];rfl
theorem oT (h:0<m) (h2:I8 l<=m):I8 (l.take m)=I8 l:=by
 rcases Gr l with ⟨e,h1⟩|⟨e,h1,h3⟩|⟨e,h1,h3⟩
 .rw [e];unfold I8;rw [KP h,if_neg (λx=>h1 (.inl x.1)),if_neg h1]
 .rw [e];unfold I8;rw [KP h,Ul,if_neg,if_pos h1]
  rintro ⟨x,y⟩
  split at y
  .exact h3 ⟨x,y⟩
  .exact absurd y Do
 .rw [e];unfold I8;rw [KP h,Ul,if_pos (show 1<m by omega),if_pos ⟨h1,h3⟩]
theorem lx {k:Nat} (h:B8 l k) (hv:Vd l) (p:Int×Int):Cf (l.take k) k p=Cf l k p:=by
 induction h generalizing p with
 |zero l=>rw [GH,GH]
 |@step l j U h ih=>
  have h1:=G7 U
  have hn:I8 (l.take (A7 l+j))=I8 l:=oT AC (by
   by_cases hc:0<I8 l
   .have e:A7 l=I8 l:=if_pos hc
    omega
   .omega)
  have hr:=hv.rune U
  have es:A7 (l.take (A7 l+j))=A7 l:=by
   by_cases hc:0<I8 l
   .have e3:A7 (l.take (A7 l+j))=I8 (l.take (A7 l+j)):=if_pos (by rw [hn];exact hc)
    rw [e3,hn];exact (if_pos hc).symm
   .have e1:A7 l=(Ba l).2:=if_neg hc
    have e2:Ba (l.take (A7 l+j))=Ba l:=by
     have:=my U hr.1 ((l.take (A7 l+j)).drop (Ba l).2)
     rwa [show l.take (Ba l).2=(l.take (A7 l+j)).take (Ba l).2 by rw [List.take_take,Nat.min_eq_left AC],List.take_append_drop] at this
    have e3:A7 (l.take (A7 l+j))=(Ba (l.take (A7 l+j))).2:=if_neg (by rw [hn];exact hc)
    rw [e3,e2];exact e1.symm
  have hne':l.take (A7 l+j)≠[]:=λe=>by
   have:=congrArg List.length e
   rw [List.length_take,List.length_nil] at this;omega
  have hv':Vd (l.drop (A7 l)):=(B8.step U (.zero (l.drop (A7 l)))).bd.vd hv
  rw [Fm hne' AC,Fm U AC,es,show A7 l+j - A7 l=j by omega,List.drop_take,show A7 l+j - A7 l=j by omega,ih hv']
  congr 1
  unfold F6 Hq
  rw [hn,KP AC]
def C7 (s:List UInt8) (p:Nat):Int×Int:=Cf s p (1,1)
theorem pn {a:Nat} (hv:Vd s) (U:B8 s a) (hb:B8 (s.drop a) (b - a)) (h:a<=b) (hl:b<=s.length):CM s a b (C7 s a)=C7 s b:=by
 have e:Br s a b=(s.drop a).take (b - a):=by unfold Br;rw [List.drop_take]
 have hp:=Jx h hl
 unfold CM C7
 rw [hp,e,lx hb (U.bd.vd hv),<-ri U,show a+(b - a)=b by omega]
theorem qd (s:List UInt8) (n:Nat) (k:Int):n<=(Co s n k).2:=by
 fun_induction Co s n k with
 |case1 n k hn U ih=>omega
 |case2 n k hn U=>omega
 |case3 n k hn=>omega
theorem jU (h:(Ar l).1≠0):0<(Ar l).2:=by
 by_cases U:0<(Ar l).2
 .exact U
 .exfalso
  cases l with
  |nil=>exact h rfl
  |cons a r=>
   have hne:a::r≠[]:=GT
   have hp:=GX (a::r)
   apply h
   unfold Ar at U |-
   split
   .simp_all
   .rename_i h6
    rw [if_neg h6] at U
    have key:∀p:Int->Bool,p (((Ba (a::r)).1:Nat):Int)=true->0<BD p (a::r):=λp hp'=>by
     rw [UK hne hp'];omega
    split
    .rename_i h5
     rw [if_pos h5] at U
     have:=key (λc=>AA c==5) (beq_iff_eq.2 h5)
     omega
    .rename_i h5
     rw [if_neg h5] at U
     split
     .rename_i h3
      rw [if_pos h3] at U
      have h3':AA (((Ba (a::r)).1:Nat):Int)=3:=h3
      have:=key D1 (by unfold D1;simp_all)
      unfold Cr at U;omega
     .rename_i h3
      rw [if_neg h3] at U
      split
      .rename_i h2
       rw [if_pos h2] at U
       have h2':AA (((Ba (a::r)).1:Nat):Int)=2:=h2
       have:=key D1 (by unfold D1;simp_all)
       unfold Cr at U;omega
      .rfl
def y9 (k:Int) (t:List UInt8) (p:Int×Int):List V:=[.int .i64 k,.str t,.int .i64 p.1,.int .i64 p.2]
theorem p7 {st:St} {o:List (List V)} {a b:Int} {K:V->St->Prop} (h:Ca st0 st w1 (o.length*4) w2 n2) (hl:o.length<=1000000000)
 (kk:∀U st',Ca st0 st' U ((o.length+1)*4) w2 n2->st'.box=st.box->K (.slice 4 (o++[y9 k t (a,b)]) U) st'):Aj 4 40 o w1 [[.int .i64 k,.str t,.int .i64 a,.int .i64 b]] st K:=
 LB h rfl (by rw [List.length_singleton];omega) (by rw [List.length_singleton];unfold DR;omega) rfl GT (λU st' hr hb=>kk U st' hr hb)
end Go.Aw
namespace Go.Proofs.Z
open Go Go.Aw
section
variable {st:St} {R:As->St->Prop}
attribute [local irreducible] Go.Aw.Aj
theorem vm {q:Nat} {e0 BT ends:Int} {AL:List (List V)} (hl:s.length<=100000000) (hsp:sp<=p) (hpq:p<=q) (hq:q<=s.length) (hln:1<=ln/\ln<=800000000) (hcol:1<=BT/\BT<=1000000000)
 (hg:0<=Fp/\Fp<=1000000000) (ht:AL.length<=1000000000) (U:st0.box b=none) (hR:Ca st0 st w1 (AL.length*4) w2 n2) (hb:st.box b=some (Qn s p sp ln BT AL notes w1 w2 Fp ends j))
 (h:∀w1' st',Ca st0 st' w1' ((AL.length+1)*4) w2 n2->st'.box b=some (Qn s q q (CM s p q (CM s sp p (ln,BT))).1 (CM s p q (CM s sp p (ln,BT))).2 (AL++[y9 k (Br s p q) (CM s sp p (ln,BT))]) notes w1' w2
   (if decide (¬k=15)|| !Lib.contains [123,125,59] (Br s p q) then Fp+1 else Fp) (CM s p q (CM s sp p (ln,BT))).1 true)->R (.ret (.Bc [])) st'):PC 51 [.ptr b 0,.agg [.int .i64 k,.int .i64 q,.int .i64 e0]] st R:=by
 have z1:=fE (s:=s) (p:=(ln,BT)) hsp AC hcol.1
 refine AM Ac [] Tryz.func51 rfl Do rfl ?_
 refine Ad (Af Ac ?_)
 repeat' ((conv=>whnf);first|exact Bi|(refine AE ?_;intros)|(refine Bj ?_ ?_ ?_;rotate_left)|fail)
 refine Ad (Af Ac ?_)
 repeat' ((conv=>whnf);first|exact Bi|(refine AE ?_;intros)|(refine Bj ?_ ?_ ?_;rotate_left)|refine vl hl hsp AC AC AC hb ?_|refine Al hb ?_|fail)
 generalize CM s sp p (ln,BT)=pl1 at h z1 |-
 have z2:=fE (s:=s) (p:=pl1) hpq hq z1.2.2.1
 dsimp only at z1 z2
 refine Ad (HF Ac (Bq _) (λ_ _ _ _ _ h k=>k.mono h) 16 6 [(0,true),(1,true),(2,true),(3,true),(4,true),(5,true),(6,true),(7,true),(8,true),(9,true),(10,true),(11,true),(12,true),(13,true),(14,true),(15,true)] [] rfl rfl rfl EQ EQ rfl rfl rfl (Nat.le_of_ble_eq_true rfl) rfl ?_)
 repeat' ((conv=>whnf);first|exact Bi|(refine AE ?_;intros)|(refine Bj ?_ ?_ ?_;rotate_left)|refine W4 hpq hq ?_|refine Al (St.AX _ _ _) ?_|fail)
 refine Ad (Af Ac ?_)
 repeat' ((conv=>whnf);first|refine Ab [(0,true),(1,true),(2,true),(3,true),(4,true),(5,true),(6,true),(7,false),(8,true),(9,true),(10,false)] [] GE ?_|exact Bi|(refine AE ?_;intros)|(refine Bj ?_ ?_ ?_;rotate_left)|refine Al (St.AX _ _ _) ?_|refine p7 (hR.set U _) ht (λw1' st1 hr1 hb1=>?_)|refine Al ((congrFun hb1 b).trans (St.AX _ _ _)) ?_|fail)
 clear hR hb
 rcases hc:(decide (¬k=15)|| !Lib.contains [123,125,59] (Br s p q)) with _|_
 all_goals rw [hc] at h
 .have hcc:∀{st:St} {R:As->St->Prop},R (.ret (.bool false)) st->PC 80 [.agg [.int .i64 k,.str (Br s p q),.int .i64 pl1.1,.int .i64 pl1.2]] st R:=λh=>X1 (by rw [hc];exact h)
  refine Ad (Af Ac ?_)
  repeat' ((conv=>whnf);first|exact Bi|(refine AE ?_;intros)|(refine Bj ?_ ?_ ?_;rotate_left)|refine hcc ?_|refine Al (St.AX _ _ _) ?_|fail)
  refine Af Ac ?_
  repeat' ((conv=>whnf);first|exact Bi|(refine AE ?_;intros)|(refine Bj ?_ ?_ ?_;rotate_left)|refine vl hl hpq hq AC AC (St.AX _ _ _) ?_|refine Al (St.AX _ _ _) ?_|fail)
  all_goals exact fin (h w1' _ ((((hr1.set U _).set U _).set U _).set U _) (St.AX _ _ _)) rfl
 .have hcc:∀{st:St} {R:As->St->Prop},R (.ret (.bool true)) st->PC 80 [.agg [.int .i64 k,.str (Br s p q),.int .i64 pl1.1,.int .i64 pl1.2]] st R:=λh=>X1 (by rw [hc];exact h)
  refine Ad (Af Ac ?_)
  repeat' ((conv=>whnf);first|exact Bi|(refine AE ?_;intros)|(refine Bj ?_ ?_ ?_;rotate_left)|refine hcc ?_|refine Al (St.AX _ _ _) ?_|fail)
  refine Af Ac ?_
  repeat' ((conv=>whnf);first|exact Bi|(refine AE ?_;intros)|(refine Bj ?_ ?_ ?_;rotate_left)|refine vl hl hpq hq AC AC (St.AX _ _ _) ?_|refine Al (St.AX _ _ _) ?_|fail)
  all_goals exact fin (h w1' _ (((((hr1.set U _).set U _).set U _).set U _).set U _) (St.AX _ _ _)) rfl
end
structure Nt where
 text:List UInt8
 Fp:Int
 wh:Int
 line:Int
 BT:Int
def Nt.cells (n:Nt):List V:=[.str n.text,.int .i64 n.Fp,.int .i64 n.wh,.int .i64 n.line,.int .i64 n.BT]
def HU (l:List Nt):List (List V):=l.map Nt.cells
structure Lx where
 AL:List Tk
 notes:List Nt
 Fp:Int
 ends:Int
 j:Bool
def zU:Lx:=⟨[],[],0,0,false⟩
def cntF (k:Int) (t:List UInt8):Bool:=decide (¬k=15)|| !Lib.contains [123,125,59] t
def ai (s:List UInt8) (p q:Nat) (k:Int) (x:Lx):Lx:=
 ⟨x.AL++[⟨k,Br s p q,(C7 s p).1,(C7 s p).2⟩],x.notes,if cntF k (Br s p q) then x.Fp+1 else x.Fp,(C7 s q).1,true⟩
def Et (s:List UInt8) (p:Nat):Nat:=p+BD (λc=>AA c==1) (s.drop p)
theorem Lj (h:p<=s.length):p<=Et s p/\Et s p<=s.length:=by
 have:=Dz (λc=>AA c==1) (s.drop p)
 rw [List.length_drop] at this
 unfold Et;omega
def zx (s:List UInt8) (p q:Nat) (x:Lx):Bool:=x.j&&decide (x.ends=(C7 s p).1)&&decide ((C7 s q).1=(C7 s p).1)
def bW (s:List UInt8) (p q:Nat):Bool:=decide (Et s q<s.length)&&decide ((C7 s (Et s q)).1=(C7 s p).1)
def oZ (s:List UInt8) (p q:Nat) (x:Lx):Lx:=
 ⟨x.AL,x.notes++[⟨Br s p q,x.Fp,if zx s p q x then (if bW s p q then 1 else 2) else 3,(C7 s p).1,(C7 s p).2⟩],x.Fp,(C7 s q).1,zx s p q x&&bW s p q⟩
def Ge (s:List UInt8) (p:Nat) (x:Lx):Sum (Int×Int) Lx:=
 if hp:p<s.length then
  if (CV s p).2≠0 then .inl ((p:Nat),(CV s p).2)
  else if 0<(CV s p).1 then
   (if U:p<(CV s p).1.toNat then Ge s (Et s (CV s p).1.toNat) (oZ s p (CV s p).1.toNat x) else .inr x)
  else if (Ck s p).2.2≠0 then .inl ((Ck s p).2.1,(Ck s p).2.2)
  else (if U:p<(Ck s p).2.1.toNat then Ge s (Et s (Ck s p).2.1.toNat) (ai s p (Ck s p).2.1.toNat (Ck s p).1 x) else .inr x)
 else .inr x
termination_by s.length - p
decreasing_by
 all_goals unfold Et;omega
def F2 (s:List UInt8):Sum (Int×Int) Lx:=
 if 16777216<s.length then .inl (0,3)
 else if (M8 s).2≠0 then .inl (M8 s)
 else if 0<=Yp (λc=>AA (c:Nat)==0) s then .inl (Yp (λc=>AA (c:Nat)==0) s,70)
 else Ge s (Et s 0) zU
theorem mq (h:(M8 s).2=0):Vd s:=by
 unfold M8 at h
 split at h
 .exact absurd h (show ¬(10:Int)=0 by decide)
 .have:=N2 Fc s
  unfold Vd;omega
end Go.Proofs.Z
namespace Go.Aw
open Go
theorem B8.le {k:Nat} (h:B8 l k):k<=l.length:=by
 induction h with
 |zero l=>omega
 |step U h ih=>have:=G7 U;grind
theorem B8.blank (hv:Vd l):B8 l (BD (λc=>AA c==1) l):=by
 refine Bd.cut (Bd.span _ l) ?_
 rintro ⟨h0,_,h2⟩
 have h2:AV (l.drop (BD (λc=>AA c==1) l))=10:=h2
 have U:=B4 (l:=l) (k:=BD (λc=>AA c==1) l) AC
 have:=S1 (λc=>AA c==1) l U
 rw [(GM AC AC).2,h2] at this
 exact absurd this Do
theorem oX (e:(CV s p).2=0) (U:0<(CV s p).1):∃n:Nat,0<n/\F4 (s.drop p)=(n:Nat)/\(CV s p).1=(p+n:Nat):=by
 unfold CV at e U |-
 split
 .simp_all
 .rename_i h
  rw [if_neg h] at e U
  split
  .simp_all
  .rename_i h1
   exact ⟨(F4 (s.drop p)).toNat,AC,AC,AC⟩
theorem Zb (hv:Vd s) (h:B8 s p) (e:(CV s p).2=0) (h0:0<(CV s p).1):∃q,(CV s p).1=(q:Nat)/\p<q/\q<=s.length/\B8 s q:=by
 obtain ⟨n,h1,h2,h3⟩:=oX e h0
 have U:=B8.add h (B8.note (h.bd.vd hv) h2)
 exact ⟨p+n,h3,AC,U.le,U⟩
theorem uB (h:(DO l).1≠0):0<(DO l).2:=by
 unfold DO at h |-
 grind
theorem rl (h:(AO l).1≠0):0<(AO l).2:=by
 have U:=qd l (Ar l).2 (Ar l).1
 by_cases hp:(Ar l).1=0
 .unfold AO at h
  rw [EB (λx=>by omega)] at h
  omega
 .have:=jU hp
  unfold AO;omega
theorem YJ (hv:Vd s) (h:B8 s p) (e:(Ck s p).2.2=0):(Ck s p).1≠0/\∃q,(Ck s p).2.1=(q:Nat)/\p<q/\q<=s.length/\B8 s q:=by
 have hv':=h.bd.vd hv
 unfold Ck at e |-
 split
 .rename_i h1
  refine ⟨h1,p+(DO (s.drop p)).2,?_⟩
  have hn:(DO (s.drop p)).1≠0:=λx=>by
   unfold Gs at h1;simp_all
  have U:=B8.add h (B8.num (s.drop p))
  have:=uB hn
  refine ⟨?_,AC,U.le,U⟩
  unfold Gs;simp_all
 .rename_i h1
  rw [if_neg h1] at e
  split
  .rename_i h2
   rw [if_pos h2] at e
   split
   .simp_all
   .rename_i h3
    refine ⟨h3,p+(AO (s.drop p)).2,?_⟩
    have hn:(AO (s.drop p)).1≠0:=λx=>by
     unfold CT at h3;simp_all
    have U:=B8.add h (B8.word (s.drop p))
    have:=rl hn
    refine ⟨?_,AC,U.le,U⟩
    unfold CT;simp_all
  .rename_i h2
   rw [if_neg h2] at e
   have hk:(Cm s p).1≠0:=λx=>h2 ⟨x,e⟩
   obtain ⟨n,e1,e2,e3⟩:=B8.quote hv' hk
   have U:=B8.add h e3
   exact ⟨hk,p+n,e1,AC,U.le,U⟩
theorem B8.xh (U:Vd s) (h:B8 s p):B8 s (Go.Proofs.Z.Et s p):=B8.add h (B8.blank (h.bd.vd U))
theorem B8.sub {i j:Nat} (h:B8 l i) (k:B8 l j) (hij:i<=j):B8 (l.drop i) (j - i):=by
 induction h generalizing j with
 |zero l=>exact k
 |@step l i hne h ih=>
  cases k with
  |zero=>simp_all
  |@step _ U _ k=>
   rw [show A7 l+U - (A7 l+i)=U - i by omega,<-List.drop_drop]
   simp_all
theorem QX:1<=(C7 s p).1/\(C7 s p).1<=1+s.length/\1<=(C7 s p).2/\(C7 s p).2<=1+8*s.length:=by
 have:=Tm _ s p (1,1) (Nat.le_refl _) Do
 unfold C7
 omega
theorem OM {a:Nat} (hv:Vd s) (U:B8 s a) (hb:B8 s b) (h:a<=b):CM s a b (C7 s a)=C7 s b:=pn hv U (U.sub hb h) h hb.le
def ntV (t:List UInt8) (Fp wh:Int) (p:Int×Int):List V:=[.str t,.int .i64 Fp,.int .i64 wh,.int .i64 p.1,.int .i64 p.2]
theorem OQ {st:St} {n1:Nat} {o:List (List V)} {g a b:Int} {K:V->St->Prop} (h:Ca st0 st w1 n1 w2 (o.length*5)) (hl:o.length<=1000000000)
 (kk:∀U st',Ca st0 st' w1 n1 U ((o.length+1)*5)->st'.box=st.box->K (.slice 5 (o++[ntV t g k (a,b)]) U) st'):Aj 5 48 o w2 [[.str t,.int .i64 g,.int .i64 k,.int .i64 a,.int .i64 b]] st K:=
 LB h.swap rfl (by rw [List.length_singleton];omega) (by rw [List.length_singleton];unfold DR;omega) rfl GT (λw1' st' hr hb=>kk w1' st' hr.swap hb)
end Go.Aw
namespace Go.Proofs.Z
open Go Go.Aw
section
variable {st:St} {R:As->St->Prop}
attribute [local irreducible] Go.Aw.Aj
theorem gH {q:Nat} {ends:Int} {AL:List (List V)} (hl:s.length<=100000000) (hv:Vd s) (c1:B8 s sp) (c2:B8 s q) (U:sp<=q)
 (hb:st.box b=some (Qn s p sp (C7 s sp).1 (C7 s sp).2 AL notes w1 w2 Fp ends j))
 (h:R (.ret (.Bc [.int .i64 (C7 s q).1,.int .i64 (C7 s q).2])) (st.Aa b (Qn s p q (C7 s q).1 (C7 s q).2 AL notes w1 w2 Fp ends j))):PC 76 [.ptr b 0,.int .i64 q] st R:=by
 have e:CM s sp q ((C7 s sp).1,(C7 s sp).2)=C7 s q:=OM hv c1 c2 U
 have hc:=QX (s:=s) (p:=sp)
 refine vl hl U c2.le AC AC hb ?_
 rw [e];exact h
theorem qV {q:Nat} {e0 ends:Int} {AL:List (List V)} (hl:s.length<=50000000) (hv:Vd s) (c1:B8 s sp) (c2:B8 s p) (c3:B8 s q) (hsp:sp<=p) (hpq:p<=q)
 (hg:0<=Fp/\Fp<=1000000000) (ht:AL.length<=1000000000) (hb0:st0.box b=none) (hR:Ca st0 st w1 (AL.length*4) w2 n2) (hb:st.box b=some (Qn s p sp (C7 s sp).1 (C7 s sp).2 AL notes w1 w2 Fp ends j))
 (h:∀U st',Ca st0 st' U ((AL.length+1)*4) w2 n2->st'.box b=some (Qn s q q (C7 s q).1 (C7 s q).2 (AL++[y9 k (Br s p q) (C7 s p)]) notes U w2
   (if cntF k (Br s p q) then Fp+1 else Fp) (C7 s q).1 true)->R (.ret (.Bc [])) st'):PC 51 [.ptr b 0,.agg [.int .i64 k,.int .i64 q,.int .i64 e0]] st R:=by
 have e1:CM s sp p ((C7 s sp).1,(C7 s sp).2)=C7 s p:=OM hv c1 c2 hsp
 have e2:CM s p q (C7 s p)=C7 s q:=OM hv c2 c3 hpq
 have hc:=QX (s:=s) (p:=sp)
 refine vm AC hsp hpq c3.le AC AC hg ht hb0 hR hb (λU st' hr hb'=>h U st' hr ?_)
 rw [e1,e2] at hb';exact hb'
theorem yl {q n1:Nat} {ends:Int} {AL:List (List V)} (hl:s.length<=50000000) (hv:Vd s) (c1:B8 s sp) (c2:B8 s p) (c3:B8 s q) (hsp:sp<=p) (hpq:p<=q)
 (hg:0<=Fp/\Fp<=1000000000) (ht:notes.length<=1000000000) (U:st0.box b=none) (hR:Ca st0 st w1 n1 w2 (notes.length*5)) (hb:st.box b=some (Qn s p sp (C7 s sp).1 (C7 s sp).2 AL notes w1 w2 Fp ends j))
 (h:∀w2' st' sp',B8 s sp'->sp'<=Et s q->Ca st0 st' w1 n1 w2' ((notes.length+1)*5)->
   st'.box b=some (Qn s (Et s q) sp' (C7 s sp').1 (C7 s sp').2 AL (notes++[ntV (Br s p q) Fp (if j&&decide (ends=(C7 s p).1)&&decide ((C7 s q).1=(C7 s p).1) then (if bW s p q then 1 else 2) else 3) (C7 s p)]) w1 w2' Fp (C7 s q).1
    (j&&decide (ends=(C7 s p).1)&&decide ((C7 s q).1=(C7 s p).1)&&bW s p q))->R (.ret (.Bc [])) st'):PC 49 [.ptr b 0,.int .i64 q] st R:=by
 have c4:=c3.xh hv
 have hq:=c3.le
 have hr:=Lj hq
 have z1:=QX (s:=s) (p:=p)
 have z2:=QX (s:=s) (p:=q)
 have z3:=QX (s:=s) (p:=Et s q)
 refine AM Ac [] Tryz.func49 rfl Do rfl ?_
 refine Ad (Af Ac ?_)
 repeat' ((conv=>whnf);first|exact Bi|(refine AE ?_;intros)|(refine Bj ?_ ?_ ?_;rotate_left)|refine gH AC hv c1 c2 hsp hb ?_|refine Al hb ?_|refine Ao GE ?_|fail)
 refine Ad (HF Ac (Bq _) (λ_ _ _ _ _ h k=>k.mono h) 17 6 [(0,true),(1,true),(2,true),(3,true),(4,true),(5,true),(6,true),(7,true),(8,true),(9,true),(10,true),(11,true),(12,true),(13,true),(14,true),(15,true),(16,true)] [] rfl rfl rfl EQ EQ rfl rfl rfl (Nat.le_of_ble_eq_true rfl) rfl ?_)
 repeat' ((conv=>whnf);first|exact Bi|(refine AE ?_;intros)|(refine Bj ?_ ?_ ?_;rotate_left)|refine W4 hpq hq ?_|refine Al (St.AX _ _ _) ?_|refine Ao GE ?_|fail)
 refine Ad (Af Ac ?_)
 repeat' ((conv=>whnf);first|exact Bi|(refine AE ?_;intros)|(refine Bj ?_ ?_ ?_;rotate_left)|refine gH AC hv c2 c3 hpq (St.AX _ _ _) ?_|refine Al (St.AX _ _ _) ?_|refine Ao GE ?_|fail)
 have hbl:∀{st:St} {R:As->St->Prop} {sp:Nat} {Fp ends:Int} {j:Bool} {notes:List (List V)} {w2:AH},st.box b=some (Qn s q sp (C7 s sp).1 (C7 s sp).2 AL notes w1 w2 Fp ends j)->
  R (.ret (.Bc [])) (st.Aa b (Qn s (Et s q) sp (C7 s sp).1 (C7 s sp).2 AL notes w1 w2 Fp ends j))->PC 47 [.ptr b 0] st R:=λhb h=>M5 AC hq hb h
 have hcase:(j=false\/(j=true/\¬ends=(C7 s p).1)\/(j=true/\ends=(C7 s p).1/\¬(C7 s q).1=(C7 s p).1))\/(j=true/\ends=(C7 s p).1/\(C7 s q).1=(C7 s p).1):=by
  cases j
  .exact .inl (.inl rfl)
  .by_cases e1:ends=(C7 s p).1
   .by_cases e2:(C7 s q).1=(C7 s p).1
    .exact .inr ⟨rfl,e1,e2⟩
    .exact .inl (.inr (.inr ⟨rfl,e1,e2⟩))
   .exact .inl (.inr (.inl ⟨rfl,e1⟩))
 rcases hcase with hc|⟨rfl,he1,he2⟩
 .have e:(j&&decide (ends=(C7 s p).1)&&decide ((C7 s q).1=(C7 s p).1))=false:=by
   rcases hc with rfl|⟨rfl,e1⟩|⟨rfl,e1,e2⟩<;>simp [*]
  rw [e] at h
  rcases hc with rfl|⟨rfl,e1⟩|⟨rfl,e1,e2⟩
  all_goals refine Ad (Af Ac ?_)
  repeat' ((conv=>whnf);first|exact Bi|(refine AE ?_;intros)|(refine Bj ?_ ?_ ?_;rotate_left)|refine Al (St.AX _ _ _) ?_|refine Ao GE ?_|fail)
  all_goals refine Ad (Af Ac ?_)
  repeat' ((conv=>whnf);first|exact Bi|(refine AE ?_;intros)|(refine Bj ?_ ?_ ?_;rotate_left)|refine Al (St.AX _ _ _) ?_|refine Ao GE ?_|fail)
  all_goals refine Ad (Af Ac ?_)
  repeat' ((conv=>whnf);first|exact Bi|(refine AE ?_;intros)|(refine Bj ?_ ?_ ?_;rotate_left)|refine hbl (St.AX _ _ _) ?_|refine Ao GE ?_|fail)
  all_goals refine Ad (Af Ac ?_)
  repeat' ((conv=>whnf);first|exact Bi|(refine AE ?_;intros)|(refine Bj ?_ ?_ ?_;rotate_left)|refine Al (St.AX _ _ _) ?_|refine Ao GE ?_|fail)
  all_goals refine Ad (Af Ac ?_)
  repeat' ((conv=>whnf);first|exact Bi|(refine AE ?_;intros)|(refine Bj ?_ ?_ ?_;rotate_left)|refine Ao GE ?_|fail)
  all_goals refine Af Ac ?_
  repeat' ((conv=>whnf);first|refine Ab [(0,true),(1,true),(2,true),(3,true),(4,true),(5,true),(6,true),(7,false),(8,true),(9,true),(10,false)] [] GE ?_|exact Bi|(refine AE ?_;intros)|(refine Bj ?_ ?_ ?_;rotate_left)|refine Al (St.AX _ _ _) ?_|refine OQ (((((hR.set U _).set U _).set U _).set U _).set U _) ht (λw1' st1 hr1 hb1=>?_)|refine Al ((congrFun hb1 b).trans (St.AX _ _ _)) ?_|refine Ao GE ?_|fail)
  all_goals exact fin (h w1' _ q c3 hr.1 (hr1.set U _) (St.AX _ _ _)) rfl
 .have e:(true&&decide (ends=(C7 s p).1)&&decide ((C7 s q).1=(C7 s p).1))=true:=by simp [*]
  rw [e] at h
  refine Ad (Af Ac ?_)
  repeat' ((conv=>whnf);first|exact Bi|(refine AE ?_;intros)|(refine Bj ?_ ?_ ?_;rotate_left)|refine Al (St.AX _ _ _) ?_|refine Ao GE ?_|fail)
  refine Ad (Af Ac ?_)
  repeat' ((conv=>whnf);first|exact Bi|(refine AE ?_;intros)|(refine Bj ?_ ?_ ?_;rotate_left)|refine Al (St.AX _ _ _) ?_|refine Ao GE ?_|fail)
  refine Ad (Af Ac ?_)
  repeat' ((conv=>whnf);first|exact Bi|(refine AE ?_;intros)|(refine Bj ?_ ?_ ?_;rotate_left)|refine hbl (St.AX _ _ _) ?_|refine Ao GE ?_|fail)
  refine Ad (Af Ac ?_)
  repeat' ((conv=>whnf);first|exact Bi|(refine AE ?_;intros)|(refine Bj ?_ ?_ ?_;rotate_left)|refine Al (St.AX _ _ _) ?_|refine Ao GE ?_|fail)
  rcases hin:bW s p q with _|_
  all_goals rw [hin] at h
  .have hno:¬Et s q<s.length\/(Et s q<s.length/\¬(C7 s (Et s q)).1=(C7 s p).1):=by
    by_cases h1:Et s q<s.length
    .exact .inr ⟨h1,λx=>by unfold bW at hin;simp [h1,x] at hin⟩
    .exact .inl h1
   rcases hno with hno|⟨hy,hno⟩
   all_goals refine Ad (Af Ac ?_)
   repeat' ((conv=>whnf);first|exact Bi|(refine AE ?_;intros)|(refine Bj ?_ ?_ ?_;rotate_left)|refine gH AC hv c3 c4 hr.1 (St.AX _ _ _) ?_|refine Al (St.AX _ _ _) ?_|refine WJ (λ_=>?_)|refine Ao GE ?_|fail)
   all_goals refine Af Ac ?_
   repeat' ((conv=>whnf);first|refine Ab [(0,true),(1,true),(2,true),(3,true),(4,true),(5,true),(6,true),(7,false),(8,true),(9,true),(10,false)] [] GE ?_|exact Bi|(refine AE ?_;intros)|(refine Bj ?_ ?_ ?_;rotate_left)|refine Al (St.AX _ _ _) ?_|refine OQ ((((((hR.set U _).set U _).set U _).set U _).set U _).set U _) ht (λw1' st1 hr1 hb1=>?_)|refine Al ((congrFun hb1 b).trans (St.AX _ _ _)) ?_|refine Ao GE ?_|fail)
   all_goals exact fin (h w1' _ (Et s q) c4 (Nat.le_refl _) (hr1.set U _) (St.AX _ _ _)) rfl
  .have hy:Et s q<s.length/\(C7 s (Et s q)).1=(C7 s p).1:=by unfold bW at hin;simpa using hin
   obtain ⟨hy1,hy2⟩:=hy
   refine Ad (Af Ac ?_)
   repeat' ((conv=>whnf);first|exact Bi|(refine AE ?_;intros)|(refine Bj ?_ ?_ ?_;rotate_left)|refine gH AC hv c3 c4 hr.1 (St.AX _ _ _) ?_|refine Al (St.AX _ _ _) ?_|refine WJ (λ_=>?_)|refine Ao GE ?_|fail)
   refine Af Ac ?_
   repeat' ((conv=>whnf);first|refine Ab [(0,true),(1,true),(2,true),(3,true),(4,true),(5,true),(6,true),(7,false),(8,true),(9,true),(10,false)] [] GE ?_|exact Bi|(refine AE ?_;intros)|(refine Bj ?_ ?_ ?_;rotate_left)|refine Al (St.AX _ _ _) ?_|refine OQ (((((((hR.set U _).set U _).set U _).set U _).set U _).set U _).set U _) ht (λw1' st1 hr1 hb1=>?_)|refine Al ((congrFun hb1 b).trans (St.AX _ _ _)) ?_|refine Ao GE ?_|fail)
   all_goals exact fin (h w1' _ (Et s q) c4 (Nat.le_refl _) (hr1.set U _) (St.AX _ _ _)) rfl
end
end Go.Proofs.Z
namespace Go.Aw
open Go
def xi (l:List UInt8):Nat:=BD (λc=>AA c==1) l
def bdr (l:List UInt8):List UInt8:=l.drop (xi l)
def Cl (l:List UInt8):Prop:=Cs (λd=> !(AA (d.1:Nat)==0)) l=l.length
theorem rW (l:List UInt8):xi (bdr l)=0:=by
 by_cases h:xi l<l.length
 .have:=S1 (λc=>AA c==1) l h
  exact qt this
 .have:bdr l=[]:=List.drop_eq_nil_iff.2 AC
  rw [this];exact kG _
end Go.Aw
namespace Go.Proofs.Z
open Go Go.Aw
def Okt (s:List UInt8):Prop:=s.length<=16777216/\Vd s/\Cl s
theorem tL {y:Lx} (h:F2 s=.inr y):Okt s:=by
 unfold F2 at h
 split at h
 .cases h
 .split at h
  .cases h
  .rename_i h1 h2
   split at h
   .cases h
   .rename_i h3
    refine ⟨AC,mq AC,?_⟩
    unfold Yp at h3
    have hle:=N2 (λd=> !((λc:Nat=>AA (c:Nat)==0) d.1)) s
    split at h3
    .omega
    .show Cs (λd=> !((λc:Nat=>AA (c:Nat)==0) d.1)) s=_
     omega
theorem n9 {x:Lx} (h:¬p<s.length):Ge s p x=.inr x:=by rw [Ge,dif_neg h]
theorem n7 {x:Lx} (h:p<s.length) (h1:(CV s p).2≠0):Ge s p x=.inl ((p:Nat),(CV s p).2):=by rw [Ge,dif_pos h,if_pos h1]
theorem jq {q:Nat} {x:Lx} (h:p<s.length) (h1:(CV s p).2=0) (h2:(CV s p).1=(q:Nat)) (h3:p<q):Ge s p x=Ge s (Et s q) (oZ s p q x):=by
 rw [Ge,dif_pos h,if_neg (λe=>e h1),if_pos AC,h2,Int.toNat_natCast,dif_pos h3]
theorem od {x:Lx} (h:p<s.length) (h1:(CV s p).2=0) (h2:¬0<(CV s p).1) (h3:(Ck s p).2.2≠0):Ge s p x=.inl ((Ck s p).2.1,(Ck s p).2.2):=by
 rw [Ge,dif_pos h,if_neg (λe=>e h1),if_neg h2,if_pos h3]
theorem og {q:Nat} {x:Lx} (h:p<s.length) (h1:(CV s p).2=0) (h2:¬0<(CV s p).1) (h3:(Ck s p).2.2=0) (h4:(Ck s p).2.1=(q:Nat)) (h5:p<q):Ge s p x=Ge s (Et s q) (ai s p q (Ck s p).1 x):=by
 rw [Ge,dif_pos h,if_neg (λe=>e h1),if_neg h2,if_neg (λe=>e h3),h4,Int.toNat_natCast,dif_pos h5]
structure LW where
 p:Nat
 sp:Nat
 x:Lx
 w1:AH
 w2:AH
 m:St
theorem lg (l:List Tk) (t:Tk):AU (l++[t])=AU l++[t.cells]:=by simp [AU]
theorem cP (l:List Nt) (t:Nt):HU (l++[t])=HU l++[t.cells]:=by simp [HU]
theorem J3 (l:List Nt):(HU l).length=l.length:=by simp [HU]
theorem se (s:List UInt8) (p:Nat):Et s (Et s p)=Et s p:=by
 have h:=rW (s.drop p)
 have e:bdr (s.drop p)=s.drop (Et s p):=by unfold bdr;rw [List.drop_drop];rfl
 rw [e] at h
 exact Nat.add_eq_left.2 h
section
variable {st:St} {R:As->St->Prop}
attribute [local irreducible] Go.Aw.Aj
theorem YI (c:Nat) (U:c<=1114111):PC 45 [.int .i32 (c:Int)] yj λr _=>r=.ret (.bool (AA (c:Int)==0)):=by
 refine pB Tryz.func45 ?_
 repeat' ((conv=>whnf);first|  (refine Bb ?_ ?_<;>intro _)|refine Ll ?_)
 all_goals first|exact AB rfl (by simp [*])|(conv=>whnf;simp [*])
theorem vZ (h1:∀i e,F2 s=.inl (i,e)->R (.ret (.Bc [.slice 4 [] .full,.slice 5 [] .full,.int .i64 i,.int .i64 e])) st)
 (h1':∀i e st',st.le st'->F2 s=.inl (i,e)->R (.ret (.Bc [.slice 4 [] .full,.slice 5 [] .full,.int .i64 i,.int .i64 e])) st')
 (h2:∀x w1 w2 st',F2 s=.inr x->st.le st'->R (.ret (.Bc [.slice 4 (AU x.AL) w1,.slice 5 (HU x.notes) w2,.int .i64 0,.int .i64 0])) st'):PC 18 [.str s] st R:=by
 refine AM Ac [30] Tryz.func18 rfl Do rfl ?_
 by_cases hl:16777216<s.length
 .have e:F2 s=.inl (0,3):=by unfold F2;rw [if_pos hl]
  refine Af Ac ?_
  repeat' ((conv=>whnf);first|exact Bi|(refine AE ?_;intros)|(refine Bj ?_ ?_ ?_;rotate_left)|refine WJ (λ_=>?_)|refine Ao GE ?_|fail)
  exact fin (h1 _ _ e) rfl
 .by_cases hk:(M8 s).2=0
  .by_cases hx:0<=Yp (λc=>AA (c:Nat)==0) s
   .have e:F2 s=.inl (Yp (λc=>AA (c:Nat)==0) s,70):=by unfold F2;rw [if_neg hl,if_neg (λx=>x hk),if_pos hx]
    refine Af Ac ?_
    repeat' ((conv=>whnf);first|exact Bi|(refine AE ?_;intros)|(refine Bj ?_ ?_ ?_;rotate_left)|refine WJ (λ_=>?_)|refine Vi ?_|refine eR (p:=λc=>AA (c:Nat)==0) YI ?_|refine Ao GE ?_|fail)
    exact fin (h1 _ _ e) rfl
   .have e:F2 s=Ge s (Et s 0) zU:=by unfold F2;rw [if_neg hl,if_neg (λx=>x hk),if_neg hx]
    have hv:=mq hk
    refine Ad (Af Ac ?_)
    repeat' ((conv=>whnf);first|exact Bi|(refine AE ?_;intros)|(refine Bj ?_ ?_ ?_;rotate_left)|refine Ao GE ?_|fail)
    refine Ad (Af Ac ?_)
    repeat' ((conv=>whnf);first|exact Bi|(refine AE ?_;intros)|(refine Bj ?_ ?_ ?_;rotate_left)|refine WJ (λ_=>?_)|refine Ao GE ?_|fail)
    refine Ad (Af Ac ?_)
    repeat' ((conv=>whnf);first|exact Bi|(refine AE ?_;intros)|(refine Bj ?_ ?_ ?_;rotate_left)|refine Vi ?_|refine Ao GE ?_|fail)
    refine Ad (Af Ac ?_)
    repeat' ((conv=>whnf);first|exact Bi|(refine AE ?_;intros)|(refine Bj ?_ ?_ ?_;rotate_left)|refine eR (p:=λc=>AA (c:Nat)==0) YI ?_|refine Ao GE ?_|fail)
    refine Ad (Af Ac ?_)
    repeat' ((conv=>whnf);first|exact Bi|(refine AE ?_;intros)|(refine Bj ?_ ?_ ?_;rotate_left)|refine Vf (λb fb=>?_)|refine Ao GE ?_|fail)
    have hb0:=fb.1
    have hq0:=Lj (s:=s) (p:=0) AC
    refine Af Ac ?_
    repeat' ((conv=>whnf);first|exact Bi|(refine AE ?_;intros)|(refine Bj ?_ ?_ ?_;rotate_left)|refine M5 (p:=0) AC AC (St.AX _ _ _) ?_|refine Ao GE ?_|fail)
    refine OG (α:=LW) (λ_=>[]) [0,6] [] (λy=>y.m) (λy=>y.m.box b=some (Qn s y.p y.sp (C7 s y.sp).1 (C7 s y.sp).2 (AU y.x.AL) (HU y.x.notes) y.w1 y.w2 y.x.Fp y.x.ends y.x.j)/\Ca st y.m y.w1 (y.x.AL.length*4) y.w2 (y.x.notes.length*5)/\
     B8 s y.sp/\B8 s y.p/\y.sp<=y.p/\0<=y.x.Fp/\y.x.Fp<=y.p/\y.x.AL.length<=y.p/\y.x.notes.length<=y.p/\Ge s (Et s 0) zU=Ge s y.p y.x)
     (λy=>s.length - y.p) ⟨Et s 0,0,zU,.full,.full,_⟩ ⟨?_,⟨trivial,trivial,trivial,trivial,trivial,St.Ag (St.Ag (St.le_refl _) hb0 _) hb0 _⟩,.zero s,B8.xh hv (.zero s),by simp only [];omega,Int.le_refl _,by simp only [zU];omega,Nat.zero_le _,Nat.zero_le _,rfl⟩ Yl (St.le_refl _) ?_
    .have e0:C7 s 0=(1,1):=GH
     dsimp only
     rw [e0]
     exact St.AX _ _ _
    rintro ⟨p,sp,x,w1,w2,m⟩ ⟨j1,j2,j3,j4,j5,j6,j7,j8,j9,U⟩
    dsimp only at j1 j2 j3 j4 j5 j6 j7 j8 j9 U |-
    have hp:=j4.le
    by_cases hpl:p<s.length
    .have hns:=λ{R:As->St->Prop}=>uA (st:=m) (R:=R) (s:=s) (pos:=p) AC hpl
     by_cases n2:(CV s p).2=0
     .rw [n2] at hns
      by_cases n1:0<(CV s p).1
      .obtain ⟨q,e1,e2,e3,e4⟩:=Zb hv j4 n2 n1
       rw [e1] at hns
       rw [jq hpl n2 e1 e2] at U
       have hq:=Lj e3
       have hnt:=λ{R:As->St->Prop}=>yl (st:=m) (R:=R) (st0:=st) AC hv j3 j4 e4 j5 AC ⟨j6,AC⟩ (by rw [J3];omega) hb0 (by rw [J3];exact j2) j1
       repeat' ((conv=>whnf);first|exact Bi|(refine AE ?_;intros)|(refine Bj ?_ ?_ ?_;rotate_left)|refine hns ?_|refine Al j1 ?_|refine WJ (λ_=>?_)|refine hnt (λv2 st' sp' c' hs' hR hB=>?_)|refine M5 (p:=Et s q) AC AC hB ?_|refine Ao GE ?_|fail)
       all_goals conv=>whnf
       have eb:=se s q
       refine ⟨⟨Et s q,sp',oZ s p q x,w1,v2,_⟩,⟨?_,?_,c',e4.xh hv,hs',j6,by show x.Fp<=_;simp only [];omega,by show x.AL.length<=_;simp only [];omega,by show (x.notes++[_]).length<=_;rw [List.length_append,List.length_singleton];simp only [];omega,U⟩,by simp only [];omega,Yl,St.le_refl _⟩
       .refine (St.AX _ _ _).trans ?_
        show _=some (Qn s (Et s q) sp' _ _ (AU x.AL) (HU (x.notes++[_])) w1 v2 x.Fp (C7 s q).1 _)
        rw [cP]
        exact congrArg (λz=>some (Qn s z sp' _ _ _ _ _ _ _ _ _)) eb
       .show Ca st _ w1 (x.AL.length*4) v2 ((x.notes++[_]).length*5)
        rw [List.length_append,List.length_singleton]
        rw [J3] at hR
        exact hR.set hb0 _
      .have hlx:=λ{R:As->St->Prop}=>oi (st:=m) (R:=R) AC hpl j1
       by_cases k2:(Ck s p).2.2=0
       .obtain ⟨k1,q,e1,e2,e3,e4⟩:=YJ hv j4 k2
        rw [k2,e1] at hlx
        rw [og hpl n2 n1 k2 e1 e2] at U
        have hq:=Lj e3
        have htk:=λ{R:As->St->Prop}=>qV (st:=m) (R:=R) (st0:=st) (k:=(Ck s p).1) (e0:=0) AC hv j3 j4 e4 j5 AC ⟨j6,AC⟩ (by rw [IB];omega) hb0 (by rw [IB];exact j2) j1
        repeat' ((conv=>whnf);first|exact Bi|(refine AE ?_;intros)|(refine Bj ?_ ?_ ?_;rotate_left)|refine hns ?_|refine Al j1 ?_|refine WJ (λ_=>?_)|refine hlx ?_|refine htk (λv1 st' hR hB=>?_)|refine M5 (p:=q) AC e3 hB ?_|refine Ao GE ?_|fail)
        all_goals conv=>whnf
        have hgap:(ai s p q (Ck s p).1 x).Fp=x.Fp\/(ai s p q (Ck s p).1 x).Fp=x.Fp+1:=by
         show (if cntF (Ck s p).1 (Br s p q) then x.Fp+1 else x.Fp)=_\/(if cntF (Ck s p).1 (Br s p q) then x.Fp+1 else x.Fp)=_
         split
         .exact .inr rfl
         .exact .inl rfl
        refine ⟨⟨Et s q,q,ai s p q (Ck s p).1 x,v1,w2,_⟩,⟨?_,?_,e4,e4.xh hv,hq.1,by simp only [];omega,by simp only [];omega,by show (x.AL++[_]).length<=_;rw [List.length_append,List.length_singleton];simp only [];omega,by show x.notes.length<=_;simp only [];omega,U⟩,by simp only [];omega,Yl,St.le_refl _⟩
        .refine (St.AX _ _ _).trans ?_
         show _=some (Qn s (Et s q) q _ _ (AU (x.AL++[_])) (HU x.notes) v1 w2 _ (C7 s q).1 true)
         rw [lg]
         rfl
        .show Ca st _ v1 ((x.AL++[_]).length*4) w2 (x.notes.length*5)
         rw [List.length_append,List.length_singleton]
         rw [IB] at hR
         exact hR.set hb0 _
       .rw [od hpl n2 n1 k2] at U
        repeat' ((conv=>whnf);first|exact Bi|(refine AE ?_;intros)|(refine Bj ?_ ?_ ?_;rotate_left)|refine hns ?_|refine Al j1 ?_|refine WJ (λ_=>?_)|refine hlx ?_|refine Ao GE ?_|fail)
        exact fin (h1' _ _ _ j2.le (e.trans U)) rfl
     .rw [n7 hpl n2] at U
      repeat' ((conv=>whnf);first|exact Bi|(refine AE ?_;intros)|(refine Bj ?_ ?_ ?_;rotate_left)|refine hns ?_|refine Al j1 ?_|refine WJ (λ_=>?_)|refine Ao GE ?_|fail)
      exact fin (h1' _ _ _ j2.le (e.trans U)) rfl
    .rw [n9 hpl] at U
     repeat' ((conv=>whnf);first|exact Bi|(refine AE ?_;intros)|(refine Bj ?_ ?_ ?_;rotate_left)|refine Al j1 ?_|refine WJ (λ_=>?_)|refine Ao GE ?_|fail)
     exact fin (h2 x w1 w2 m (e.trans U) j2.le) rfl
  .have e:F2 s=.inl ((M8 s).1,(M8 s).2):=by unfold F2;rw [if_neg hl,if_pos hk]
   refine Af Ac ?_
   repeat' ((conv=>whnf);first|exact Bi|(refine AE ?_;intros)|(refine Bj ?_ ?_ ?_;rotate_left)|refine WJ (λ_=>?_)|refine Vi ?_|refine Ao GE ?_|fail)
   exact fin (h1 _ _ e) rfl
end
section
variable {st:St} {R:As->St->Prop}
def Zp (k:Int) (t:List UInt8):Bool:=decide (¬k=15)||(!(t==[123])&& !(t==[125])&& !(t==[59]))
end
section
variable {st:St} {R:As->St->Prop}
attribute [local irreducible] Go.Aw.Bu
theorem IU {es:List α} (h:es.length=n) (k:K n):∀m,m=es.length->m<DR->K m:=λm U _=>by simp_all
theorem ue {st:St} {U:Nat} {Q:Prop} {K:Nat->Nat->Prop} (h1:(n:Int)*(U:Int)<=140737488355328) (h2:n<1000000000) (k:∀b,st.fresh b->K b n):
 (0<=(n:Int)/\(n:Int)<=n/\(n:Int)*(U:Int)<=140737488355328/\(n:Int)<(DR:Nat))/\(Q\/((n:Int)=n/\∀b k,st.fresh b->k=(n:Int).toNat->K b k)):=
 ⟨⟨AC,AC,h1,by unfold DR;omega⟩,.inr ⟨rfl,λb k' hb hk=>by
   simp_all⟩⟩
end
def K1:List (Int×Int×List UInt8):=[(2,9,[46]),(1,9,[33,33]),(2,8,[94,32,94,94,32,42,42]),(1,7,[42,32,47,32,113,117,111,116,32,114,101,109,32,100,105,118,32,109,111,100]),(1,6,[43,32,45]),(2,5,[58,32,43,43]),(3,4,[61,61,32,47,61,32,60,32,60,61,32,62,61,32,62,32,101,108,101,109,32,110,111,116,69,108,101,109]),(2,3,[38,38]),(2,2,[124,124]),(1,1,[62,62,32,62,62,61]),(2,1,[61,60,60]),(2,0,[36,32,36,33,32,115,101,113])]
def Px (r:Int×Int×List UInt8):List Fx:=(Lib.fields r.2.2).map λn=>⟨n,r.1,r.2.1⟩
def xD:List Fx->List Fx->Bool
 |[],[]=>true
 |a::l,b::m=>a.op==b.op&&(a.side==b.side&&(a.prec==b.prec&&xD l m))
 |_,_=>false
theorem bT:∀{l m:List Fx},xD l m=true->l=m
 |[],[],_=>rfl
 |a::l,b::m,h=>by
  rw [xD,Bool.and_eq_true,Bool.and_eq_true,Bool.and_eq_true,beq_iff_eq,beq_iff_eq,beq_iff_eq] at h
  obtain ⟨h1,h2,h3,h4⟩:=h
  cases a;cases b
  dsimp only at h1 h2 h3
  rw [h1,h2,h3,bT h4]
 |[],_::_,h=>by cases h
 |_::_,[],h=>by cases h
theorem Zn:K1.flatMap Px=IM:=bT GE
theorem pD:(K1.all λr=>decide (r.2.2.length<100)&&(r.2.2.all (λb=>decide (b.toNat<128))&&(decide ((Lib.fields r.2.2).length<100)&&(Lib.fields r.2.2).all λx=>decide (x.length<100))))=true:=GE
theorem aO {l:List Fx} {x:Fx} {own:AH} {st:St} {K:V->St->Prop} (h:own.BM st) (hb:l.length+1<=1000000000)
 (k:∀U:AH,U.BM st->K (.slice 3 (Az (l++[x])) U) (U.st st ((l++[x]).length*3))):Aj 3 32 (Az l) own [x.cells] (own.st st (l.length*3)) K:=by
 have el:∀l:List Fx,(Az l).length=l.length:=λl=>List.length_map ..
 have:=EI (sz:=3) (bytes:=32) (es:=Az l) (new:=[x.cells]) (K:=K) h (by rw [el];show (l.length+1)*32<=_;omega) (by rw [el];show l.length+1<DR;simp only [DR];omega) rfl (λU ho=>by
  have:=k U ho
  rw [el]
  have e:Az l++[x.cells].map (·.map V.JK)=Az (l++[x]):=by unfold Az;rw [List.map_append];rfl
  rw [e]
  rw [List.length_append] at this
  exact this)
 rw [el] at this
 exact this
def eC (l:List (Int×Int×List UInt8)):List (List V):=l.map λr=>[.int .i64 r.1,.int .i64 r.2.1,.str r.2.2]
theorem pO {l:List (Int×Int×List UInt8)} {x:Int×Int×List UInt8} {K:List V->Prop} (h:l[i.toNat]? =some x) (U:0<=i) (k:K [.int .i64 x.1,.int .i64 x.2.1,.str x.2.2]):0<=i/\∃e,(eC l)[i.toNat]? =some e/\K e:=
 ⟨U,_,by simp [eC,h],k⟩
theorem Z3 {l:List (List UInt8)} {x:List UInt8} {K:List V->Prop} (h:l[i.toNat]? =some x) (U:0<=i) (k:K [.str x]):0<=i/\∃e,(strs l)[i.toNat]? =some e/\K e:=
 ⟨U,_,by simp [strs,h],k⟩
theorem cp {l:List (List UInt8)} (k:l.length<4611686018427387904->K l.length):∀m,m=(strs l).length->m<DR->K m:=λm U h=>by
 rw [show (strs l).length=l.length by simp [strs]] at U;subst U;exact k h
theorem Uj {β:Type} {f:α->List β} {l:List α} {k:Nat} {x:α} (h:l[k]? =some x):(l.take (k+1)).flatMap f=(l.take k).flatMap f++f x:=by
 rw [List.take_add_one,h,List.flatMap_append]
 simp
section
attribute [local irreducible] Go.Aw.Aj
set_option maxRecDepth 100000 in
theorem ny:lF:=λst R h=>by
 refine pB Tryz.func180 ?_
 rw [<-Zn] at h
 have hok:=List.all_eq_true.1 pD
 have hlen:K1.length=12:=rfl
 repeat' ((conv=>whnf);first|refine IU (es:=eC K1) (n:=12) rfl ?_|(refine AE ?_;intros)|(refine Bb ?_ ?_<;>intro _)|refine wW (λ_=>?_) ?_|fail)
 refine B5 (α:=Nat×AH) (λy=>[(2,.slice 3 (Az ((K1.take y.1).flatMap Px)) y.2),(23,.int .i64 (y.1:Nat)),(21,.slice 3 (eC K1) .full),(22,.int .i64 ((12:Nat):Int))]) [] (λ_=>[]) [] (λy=>y.2.st st (((K1.take y.1).flatMap Px).length*3)) (λy=>y.2.BM st/\y.1<=12) (λy=>12 - y.1) (0,.full) ⟨trivial,Nat.zero_le _⟩ Yl (St.le_refl _) ?_
 generalize K1=U at h hok hlen |-
 have hfl:∀i,i<=12->((U.take i).flatMap Px).length<=i*100:=λi=>by
  induction i with
  |zero=>intro _;rw [List.take_zero];exact Nat.zero_le _
  |succ i ih=>
   intro hi
   have hx:U[i]? =some U[i]:=List.getElem?_eq_getElem AC
   rw [Uj hx,List.length_append]
   have h1:=ih AC
   have h2:=hok U[i] (List.mem_of_getElem? hx)
   simp only [Bool.and_eq_true,decide_eq_true_eq] at h2
   have e:(Px U[i]).length=(Lib.fields U[i].2.2).length:=List.length_map ..
   have:=h2.2.2.1
   omega
 rintro ⟨i,w⟩ ⟨j1,j2⟩
 dsimp only at j1 j2
 by_cases hlt:i<12
 .obtain ⟨r,hr⟩:∃r,U[(i:Int).toNat]? =some r:=⟨_,List.getElem?_eq_getElem (by show i<U.length;omega)⟩
  have hx:=hok r (List.mem_of_getElem? hr)
  simp only [Bool.and_eq_true,decide_eq_true_eq,List.all_eq_true] at hx
  obtain ⟨x1,x2,x3,x4⟩:=hx
  have hft:=Uj (f:=Px) (show U[i]? =some r from hr)
  have hfi:=hfl i j2
  generalize (U.take i).flatMap Px=O at hft hfi |-
  unfold Px at hft
  have hfc:∀{st:St} {R:As->St->Prop},R (.ret (.slice 1 (strs (Lib.fields r.2.2)) .any)) st->PC 214 [.str r.2.2] st R:=λh=>Yi AC x2 h (λx hx=>by have:=x4 x hx;unfold DR;omega) (by unfold DR;omega)
  generalize Lib.fields r.2.2=F at hft hfc x3
  have hli:(i:Int)<((12:Nat):Int):=AC
  repeat' ((conv=>whnf);first|refine Wv hli ?_|(refine AE ?_;intros)|(refine Bb ?_ ?_<;>intro _)|refine wW (λ_=>?_) ?_|refine pO hr AC ?_|refine hfc ?_|refine cp (λ_=>?_))
  refine B5 (α:=Nat×AH) (λy=>[(2,.slice 3 (Az (O++(F.take y.1).map λn=>⟨n,r.1,r.2.1⟩)) y.2),(31,.int .i64 (y.1:Nat))]) [4,21,22,23,29,30] (λ_=>[]) [0] (λy=>y.2.st st ((O++(F.take y.1).map λn=>(⟨n,r.1,r.2.1⟩:Fx)).length*3)) (λy=>y.2.BM st/\y.1<=F.length) (λy=>F.length - y.1) (0,w) ⟨j1,Nat.zero_le _⟩ (by rw [List.take_zero,List.map_nil,List.append_nil];exact Yl) (by rw [List.take_zero,List.map_nil,List.append_nil];exact St.le_refl _) ?_
  rintro ⟨k,w'⟩ ⟨j3,j4⟩
  dsimp only at j3 j4
  by_cases hkt:k<F.length
  .obtain ⟨x,hx⟩:∃x,F[(k:Int).toNat]? =some x:=⟨_,List.getElem?_eq_getElem hkt⟩
   have htk:(F.take (k+1)).map (λn=>(⟨n,r.1,r.2.1⟩:Fx))=(F.take k).map (λn=>⟨n,r.1,r.2.1⟩)++[⟨x,r.1,r.2.1⟩]:=by rw [List.take_add_one,show F[k]? =some x from hx,List.map_append];rfl
   have hn:(O++(F.take k).map λn=>(⟨n,r.1,r.2.1⟩:Fx)).length+1<=1000000000:=by rw [List.length_append,List.length_map,List.length_take];omega
   have hki:(k:Int)<(F.length:Int):=AC
   repeat' ((conv=>whnf);first|refine Wv hki ?_|(refine AE ?_;intros)|(refine Bb ?_ ?_<;>intro _)|refine wW (λ_=>?_) ?_|refine Z3 hx AC ?_|refine aO (x:=⟨x,r.1,r.2.1⟩) j3 hn (λown1 ho1=>?_)|refine Wq (a:=(k:Int)+1) AC AC ?_)
   all_goals conv=>whnf
   all_goals exact ⟨(k+1,own1),⟨ho1,hkt⟩,Nat.sub_lt_sub_left hkt (Nat.lt_succ_self k),by dsimp only;rw [htk,<-List.append_assoc];exact Yl,by dsimp only;rw [htk,<-List.append_assoc];exact St.le_refl _⟩
  .have hk2:k=F.length:=AC
   subst hk2
   rw [List.take_length,<-hft]
   have hki:¬(F.length:Int)<(F.length:Int):=AC
   repeat' ((conv=>whnf);first|refine Ww hki ?_|(refine AE ?_;intros)|(refine Bb ?_ ?_<;>intro _)|refine wW (λ_=>?_) ?_|refine Wq (a:=(i:Int)+1) AC AC ?_)
   all_goals conv=>whnf
   all_goals exact ⟨(i+1,w'),⟨j3,hlt⟩,Nat.sub_lt_sub_left hlt (Nat.lt_succ_self i),Yl,St.le_refl _⟩
 .have hi2:i=12:=AC
  subst hi2
  rw [show U.take 12=U by rw [<-hlen,List.take_length]]
  have hli:¬((12:Nat):Int)<((12:Nat):Int):=AC
  repeat' ((conv=>whnf);first|refine Ww hli ?_|(refine AE ?_;intros)|(refine Bb ?_ ?_<;>intro _)|refine wW (λ_=>?_) ?_|fail)
  all_goals exact AF rfl (h _ (AH.Bz j1))
end
section
variable {st:St} {R:As->St->Prop}
attribute [local irreducible] Go.Aw.Aj
theorem A2 {a b:List Nd}:AD (a++b)=AD a+AD b:=by
 induction a with
 |nil=>simp [AD]
 |cons x r ih=>rw [List.cons_append,AD,AD,ih];omega
end
end Go.Proofs.Z
