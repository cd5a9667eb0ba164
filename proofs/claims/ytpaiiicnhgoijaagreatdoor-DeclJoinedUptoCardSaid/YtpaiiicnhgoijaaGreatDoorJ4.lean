/-
  Parts of a proof: lemmas that the last text uses.
-/
import Derived.Test.YtpaiiicnhgoijaaGreatDoorJ3
import Derived.RangeFuncRecord
import Derived.RangeFuncSeq
import Derived.OrdersIn
set_option linter.unusedVariables false
set_option linter.unusedSimpArgs false
set_option maxHeartbeats 16000000
variable {l:List Go.Aw.Nd} {t:Go.Proofs.Z.Tk} {b c d id:Nat} {s s':Go.Proofs.Z.Ad} {n o:Go.Aw.Nd} {f g:Go.FuncId} {k i v:Int} {r:Go.Loop} {K:Go.Aw.AA->Go.Aw.St->Prop} {cs args:List Go.Aw.V} {x w:List UInt8} {α σ β:Type} {mk:Nat->List Go.Aw.V} {st0 st':Go.Aw.St} {rows:List (Go.Aw.AJ×List Go.Aw.Nd)} {E:Go.Proofs.Z.Er->Go.Proofs.Z.Ad->Prop} {Q:Go.Aw.Nd->Go.Proofs.Z.Ad->Prop} {P p B:Prop} {ih:(Go.Aw.AH->Go.Aw.Env->Go.Aw.St->Prop)->Go.Aw.Env->Go.Aw.St->Prop} {Q0:Go.Aw.AH->Go.Aw.Env->Go.Aw.St->Prop} {env:Go.Aw.Env} {ks:List Int} {br:Bool} {stmt:Go.Proofs.Z.Rd Go.Aw.Nd} {ops:Array Go.Oper} {w':Go.World} {Im:Go.Aw.Mem} {fn:Go.Func}
namespace Go.Proofs.Z
open Go Go.Aw
def lW (t:Tk):Bool:= !(t.kind==16)&&(!(t.kind==17)&&qt t.kind t.text)
def DA (l:List Tk):List Tk:=l.filter lW
def Fi (l:List Tk) (a b:Int):List Tk:=(l.take b.toNat).drop a.toNat
theorem L9 {l:List Tk} {a:Int}:Fi l a a=[]:=by
 unfold Fi
 exact List.drop_eq_nil_iff.2 Pi
theorem mJ {l:List Tk} {a:Int} (U:0<=a) (h:l[a.toNat]? =some t):Fi l a (a+1)=[t]:=by
 unfold Fi
 rw [show (a+1).toNat=a.toNat+1 by omega,List.take_add_one,h]
 have hl:=(List.getElem?_eq_some_iff.1 h).1
 rw [List.drop_append,List.drop_eq_nil_iff.2 Pi,List.length_take,Nat.min_eq_left AC,Nat.sub_self]
 rfl
theorem mI {l:List Tk} {a b c:Int} (h0:0<=a) (h1:a<=b) (h2:b<=c):Fi l a b++Fi l b c=Fi l a c:=by
 unfold Fi
 obtain ⟨x,rfl⟩:∃x:Nat,a=x:=⟨a.toNat,AC⟩
 obtain ⟨y,rfl⟩:∃y:Nat,b=y:=⟨b.toNat,AC⟩
 obtain ⟨z,rfl⟩:∃z:Nat,c=z:=⟨c.toNat,AC⟩
 simp only [Int.toNat_natCast]
 have e:l.take y=(l.take z).take y:=by rw [List.take_take,Nat.min_eq_left AC]
 rw [e]
 generalize l.take z=m
 have hx:m.drop x=(m.take y).drop x++m.drop y:=by
  have U:m=m.take y++m.drop y:=(List.take_append_drop y m).symm
  by_cases hy:y<=m.length
  .conv=>lhs;rw [U]
   rw [List.drop_append,List.length_take,Nat.min_eq_left hy,show x - y=0 by omega,List.drop_zero]
  .rw [List.drop_eq_nil_iff.2 (show m.length<=y by omega),List.append_nil,List.take_of_length_le AC]
 exact hx.symm
structure Ps (s s':Ad) (m:List Tk):Prop where
 tk:s'.Ag=s.Ag
 le:s.pos<=s'.pos
 ok:s'=s\/(0<=s.pos/\s'.pos<=s.Ag.length)
 eq:DA m=DA (Fi s.Ag s.pos s'.pos)
theorem Ps.nil (s:Ad):Ps s s []:=⟨rfl,Int.le_refl _,.inl rfl,by rw [L9]⟩
theorem Ps.trans {s s1 s2:Ad} {m n:List Tk} (h:Ps s s1 m) (k:Ps s1 s2 n):Ps s s2 (m++n):=by
 have ht:=k.tk.trans h.tk
 have hw:DA (m++n)=DA m++DA n:=by unfold DA;rw [List.filter_append]
 rcases h.ok with rfl|⟨U,a2⟩
 .refine ⟨ht,k.le,k.ok,?_⟩
  rw [hw,h.eq,L9,k.eq];rfl
 .have hle:=h.le
  rcases k.ok with rfl|⟨b1,b2⟩
  .refine ⟨ht,hle,.inr ⟨U,a2⟩,?_⟩
   rw [hw,h.eq,k.eq,L9];exact List.append_nil _
  .have kle:=k.le
   refine ⟨ht,AC,.inr ⟨U,by rw [<-h.tk];exact b2⟩,?_⟩
   rw [hw,h.eq,k.eq,h.tk,<-mI U hle kle]
   unfold DA;rw [List.filter_append]
theorem Ps.still {m:List Tk} (U:0<=s.pos) (h1:s.pos<=s.Ag.length) (ht:s'.Ag=s.Ag) (hp:s'.pos=s.pos) (hm:DA m=[]):Ps s s' m:=⟨ht,AC,.inr ⟨U,AC⟩,by rw [hm,hp,L9];rfl⟩
theorem Ps.step {s s':Ad} {m:List Tk} {t:Tk} (U:0<=s.pos) (h:s.Ag[s.pos.toNat]? =some t) (ht:s'.Ag=s.Ag) (hp:s'.pos=s.pos+1) (hm:DA m=DA [t]):Ps s s' m:=by
 have hl:=(List.getElem?_eq_some_iff.1 h).1
 exact ⟨ht,AC,.inr ⟨U,AC⟩,by rw [hm,hp,mJ U h]⟩
theorem NO (h:t.kind=16\/t.kind=17):DA [t]=[]:=by
 unfold DA lW
 rcases h with h|h<;>simp [h]
def pZ (t:Tk):List Tk:=if t.kind<18 then [t] else []
theorem VL:∀(n:Nat) (s:Ad),(∀t ∈ s.Ag,t.kind<18)->0<=s.pos->s.pos<=s.Ag.length->(Fw n s).2.2=0->Ps s (Fw n s).2.1 (pZ (Fw n s).1)
 |n,s,hN,U,h1,h=>by
  have hend:∀{x:Tk×Ad×Int},x=Gb s->x.2.2=0->Ps s x.2.1 (pZ x.1):=λ{x} e hx=>by
   subst e
   unfold Gb at hx |-
   split
   .exact .still U h1 rfl rfl rfl
   .rename_i e1
    rw [if_neg e1] at hx
    split
    .exact .still U h1 rfl rfl rfl
    .rename_i e2;rw [if_neg e2] at hx;cases hx
  cases n with
  |zero=>exact hend rfl h
  |succ n=>
   cases ht:s.Ag[s.pos.toNat]? with
   |none=>exact hend (by rw [Fw,ht]) h
   |some t=>
    have e:Fw (n+1) s=if t.kind=16/\s.wait<2 then ((GY t s).1,(GY t s).2,0)
     else if t.kind=16\/t.kind=17 then if (Ed t s).1.kind=0 then Fw n (Ed t s).2 else ((Ed t s).1,(Ed t s).2,0) else BC t s:=by rw [Fw,ht]
    have hl:=(List.getElem?_eq_some_iff.1 ht).1
    rw [e] at h |-
    clear e
    split
    .rename_i hk
     unfold GY
     split
     .exact .still U h1 rfl rfl rfl
     .split
      .exact .step U ht rfl rfl (by rw [NO (.inl hk.1)];rfl)
      .exact .still U h1 rfl rfl rfl
    .rename_i hk
     rw [if_neg hk] at h
     split
     .rename_i hk2
      rw [if_pos hk2] at h
      split
      .rename_i hz
       rw [if_pos hz] at h
       rw [FR hz] at h |-
       have h3:Ps s {s with pos:=s.pos+1,wait:=0} []:=.step U ht rfl rfl (by rw [NO hk2];rfl)
       exact h3.trans (VL n {s with pos:=s.pos+1,wait:=0} hN (by show 0<=s.pos+1;omega) (by show s.pos+1<=(s.Ag.length:Int);omega) h)
      .rename_i hz
       unfold Ed at hz |-
       split
       .exact .still U h1 rfl rfl rfl
       .rename_i e1
        rw [if_neg e1] at hz
        split
        .exact .step U ht rfl rfl (by rw [NO hk2];rfl)
        .rename_i e2;rw [if_neg e2] at hz;exact absurd rfl hz
     .rename_i hk2
      rw [if_neg hk2] at h
      have ha:DA (pZ t)=DA [t]:=by unfold pZ;rw [if_pos (hN t (List.mem_of_getElem? ht))]
      unfold BC at h |-
      split
      .exact .step U ht rfl rfl ha
      .rename_i e1
       rw [if_neg e1] at h
       split
       .rename_i e2
        rw [if_pos e2] at h
        split
        .rename_i e3;rw [if_pos e3] at h;cases h
        .exact .step U ht rfl rfl ha
       .exact .step U ht rfl rfl ha
theorem aI (h:K1 s=true):0<=s.pos/\s.pos<=s.Ag.length:=by
 unfold K1 at h
 simp only [Bool.and_eq_true,decide_eq_true_eq] at h
 omega
theorem TR (hN:∀t ∈ s.Ag,t.kind<18) (h:(Ab s).2.2=0):Ps s (Ab s).2.1 (pZ (Ab s).1):=by
 unfold Ab at h |-
 cases U:K1 s with
 |false=>rw [U] at h;cases h
 |true=>
  rw [U,if_pos rfl] at h
  rw [if_pos rfl]
  obtain ⟨h0,h1⟩:=aI U
  exact VL _ s hN h0 h1 h
theorem R9 (h:Gr t=true):DA (pZ t)=[]:=by
 unfold pZ
 split
 .rename_i hk
  unfold Gr at h
  have h:t.kind=15/\(t.text=[123]\/t.text=[125]\/t.text=[59]):=by
   simp only [Bool.or_eq_true,Bool.and_eq_true,beq_iff_eq] at h
   rcases h with h|h
   .omega
   .exact ⟨h.1,by rcases h.2 with (h|h)|h<;>simp [h]⟩
  unfold DA lW qt
  rcases h with ⟨h1,U|U|U⟩<;>simp [h1,U]
 .rfl
theorem La {f:Bool}:GD (BB f l)=Cq l:=by unfold BB;rw [GD,if_neg Do]
theorem Ps.words {m n:List Tk} (h:Ps s s' m) (e:DA n=DA m):Ps s s' n:=⟨h.tk,h.le,h.ok,e.trans h.eq⟩
theorem Ba.ps (h:Ba l s s'):(∀t ∈ s.Ag,t.kind<18)->Ps s s' (Cq l):=by
 induction h with
 |nil s=>intro _;exact Ps.nil s
 |app _ _ U h2=>
   intro hN
   have k1:=U hN
   rw [Gl]
   exact k1.trans (h2 (by rw [k1.tk];exact hN))
 |tok U h2 h3=>
   intro hN
   rw [Ft,TF]
   exact (TR hN U).words (by unfold pZ;rw [if_pos h2])
 |skip U h2=>intro hN;exact (TR hN U).words (by rw [R9 h2];rfl)
 |close U=>
   intro hN
   rename_i s
   unfold C0 at U |-
   split
   .rename_i hc
    obtain ⟨h0,U⟩:=aI hc.1
    exact .still h0 U rfl rfl rfl
   .rename_i hc;rw [if_neg hc] at U;cases U
 |node U h2 h3 ih=>
   intro hN
   rw [Ft,Mo h2]
   exact ih hN
 |block U h2 h3 ih=>
   intro hN
   rename_i f l s s'
   have k1:=TR hN U
   rw [Ft,La]
   have:=k1.trans (ih (by rw [k1.tk];exact hN))
   refine this.words ?_
   unfold DA
   rw [List.filter_append]
   have e:=R9 h2
   unfold DA at e
   rw [e];rfl
mutual
theorem TG:∀n:Nd,(GD n).length<=n.size
 | .mk k f t l c ks=>by
   have:=HQ ks
   rw [GD,Nd.size]
   split
   .rw [List.length_singleton];omega
   .omega
theorem HQ:∀l:List Nd,(Cq l).length<=Dj l
 |[]=>Nat.le_refl _
 |n::r=>by
  have:=TG n
  have:=HQ r
  rw [Cq,Dj,List.length_append];omega
end
def Lf (l:List Nd) (s s':Ad):Prop:=(Cq l).length+4*mu s'<=4*mu s/\((∀t ∈ s.Ag,t.kind<18)->Ps s s' (Cq l))
def uR (A:Rd Nd):Prop:=∀s,Rd.wp A s (λn s'=>Lf [n] s s') Fg
section
variable {A B C D E F:Rd Nd} {s s0 s1 s2 s':Ad} {Q:Nd->Ad->Prop} {l m:List Nd}
theorem Lf.nil (s:Ad):Lf [] s s:=⟨ke,λ_=>Ps.nil s⟩
theorem Lf.app (h:Lf l s s1) (k:Lf m s1 s2):Lf (l++m) s s2:=by
 unfold Lf
 rw [Gl]
 refine ⟨by have:=h.1;have:=k.1;rw [List.length_append];omega,λhN=>?_⟩
 have U:=h.2 hN
 exact U.trans (k.2 (by rw [U.tk];exact hN))
theorem Lf.Hq {m:Nd} (h:Lf [n] s s1) (k:Lf (m::l) s1 s2):Lf (n::m::l) s s2:=.app h k
theorem Lf.node (U:k≠1) (h:Lf l s s'):Lf [Aq k l] s s':=by
 unfold Lf
 rw [Ft,Mo U];exact h
theorem Lf.of (h:Ba l s s'):Lf l s s':=⟨by have:=h.size;have:=HQ l;omega,h.ps⟩
theorem Lf.block {f:Bool} (U:Lf [] s s1) (h:Lf l s1 s'):Lf [BB f l] s s':=by
 unfold Lf
 rw [Ft,La];exact Lf.app U h
theorem uR.of (h:Dv A):uR A:=λs=>Rd.wp_mono (h s) (λn s' _ h=>.of h) (λ_ _ _ _=>trivial)
end
def pY (st0 st:St):AJ×List Nd->Prop
 |(.any,_)=>False
 |(.full,_)=>True
 |(.tok t,l)=>st0.fresh t/\st.hw t=some (l.length*6)
def ZI:AJ×List Nd->AJ×List Nd->Prop
 |(.tok t,_),(.tok u,_)=>t≠u
 |_,_=>True
theorem ZI.symm {r q:AJ×List Nd} (h:ZI r q):ZI q r:=by
 obtain ⟨o1,U⟩:=r;obtain ⟨o2,l2⟩:=q
 cases o1<;>cases o2<;>first|exact trivial|exact Ne.symm h
structure Rx (st0 st:St) (rows:List (AJ×List Nd)):Prop where
 le:st0.le st
 ok:∀r ∈ rows,pY st0 st r
 ap:rows.Pairwise ZI
section
variable {st0 st:St} {r q:AJ×List Nd} {rows:List (AJ×List Nd)}
theorem Rx.start:Rx st st []:=⟨St.le_refl _,λr U=>absurd U List.not_mem_nil,List.Pairwise.nil⟩
theorem Rx.drop (h:Rx st0 st (r::rows)):Rx st0 st rows:=⟨h.le,λq U=>h.ok q (List.mem_cons_of_mem _ U),(List.pairwise_cons.1 h.ap).2⟩
theorem Rx.push (h:Rx st0 st rows) (l:List Nd):Rx st0 st ((.full,l)::rows):=⟨h.le,λq U=>by
 rcases List.mem_cons.1 U with e|e
 .subst e;exact trivial
 .exact h.ok q e,List.pairwise_cons.2 ⟨λq U=>trivial,h.ap⟩⟩
theorem Rx.swap (h:Rx st0 st (r::q::rows)):Rx st0 st (q::r::rows):=by
 have h1:=List.pairwise_cons.1 h.ap
 have h2:=List.pairwise_cons.1 h1.2
 refine ⟨h.le,λx U=>h.ok x ?_,List.pairwise_cons.2 ⟨λx U=>?_,List.pairwise_cons.2 ⟨λx U=>h1.1 x (List.mem_cons_of_mem _ U),h2.2⟩⟩⟩
 .grind
 .rcases List.mem_cons.1 U with e|e
  .subst e;exact (h1.1 q (List.mem_cons_self ..)).symm
  simp_all
theorem Rx.fresh {t:Nat} (h:Rx st0 st rows) (U:st.fresh t):st0.fresh t:=by
 refine ⟨?_,?_⟩
 .cases e:st0.box t with
  |none=>rfl
  |some c=>
   have:=h.le.1 t c e
   rw [U.1] at this;grind
 .cases e:st0.hw t with
  |none=>rfl
  |some c=>
   have:=h.le.2 t c e
   rw [U.2] at this;grind
theorem Rx.kX {t:Nat} (h:Rx st0 st rows) (ht:st.fresh t):∀r ∈ rows,r.1≠.tok t:=λr U e=>by
 have:=h.ok r U
 obtain ⟨o,l⟩:=r
 dsimp only at e
 subst e
 have:=this.2
 rw [ht.2] at this;grind
theorem Rx.app {own:AJ} {new:List Nd} {K:V->St->Prop} (h:Rx st0 st ((own,l)::rows)) (hb:l.length+new.length<=1000000000)
 (k:∀own' st',st'.box=st.box->Rx st0 st' ((own',l++new)::rows)->K (.slice 6 ((l++new).map AP) own') st'):Ah 6 72 (l.map AP) own (new.map AP) st K:=by
 have hw:(new.map AP).map (·.map V.JI)=new.map AP:=by
  rw [List.map_map]
  exact List.map_congr_left λx _=>rfl
 have hsc:((new.map AP).all λv=>v.all V.sc)=true:=by
  rw [List.all_map,List.all_eq_true]
  intro x _;rfl
 have hlen:(l.map AP).length+(new.map AP).length=(l++new).length:=GT
 have hap:=List.pairwise_cons.1 h.ap
 have mk:∀(t:Nat) (m:St),(∀r ∈ rows,pY st0 m r)->st0.fresh t->st0.le m->(∀r ∈ rows,r.1≠.tok t)->m.hw t=some ((l++new).length*6)->Rx st0 m ((.tok t,l++new)::rows):=by
  intro t m h1 h2 h4 h5 h6
  refine ⟨h4,λr U=>?_,List.pairwise_cons.2 ⟨λr U=>?_,hap.2⟩⟩
  .rcases List.mem_cons.1 U with e|e
   .subst e;exact ⟨h2,h6⟩
   simp_all
  .obtain ⟨o,q⟩:=r
   cases o with
   |tok u=>exact λe=>h5 _ U kw
   |any=>exact trivial
   |full=>exact trivial
 refine ⟨by grind,by rw [hlen,List.length_append];unfold C9;omega,AQ hsc ?_⟩
 cases own with
 |any=>exact (h.ok _ (List.mem_cons_self ..)).elim
 |full=>
  refine ⟨λe=>?_,λ_=>.inl λt ht=>?_⟩
  .simp_all
  .rw [hw,hlen,<-List.map_append]
   refine k (.tok t) _ rfl (mk t _ (λr U=>?_) (h.fresh ht) (St.Ig h.le (h.fresh ht).2 _) (h.drop.kX ht) (by simp [St.B3]))
   have h1:=h.ok r (List.mem_cons_of_mem _ U)
   have h2:=h.drop.kX ht r U
   obtain ⟨o,q⟩:=r
   cases o with
   |tok u=>
    have:u≠t:=λe=>h2 kw
    exact ⟨h1.1,by simp only [St.B3];rw [if_neg this];exact h1.2⟩
   |any=>exact h1
   |full=>exact h1
 |tok t0=>
  have h0:=h.ok _ (List.mem_cons_self ..)
  refine ⟨by rw [List.length_map];exact h0.2,.inl λt ht=>?_⟩
  rw [hw,hlen,<-List.map_append]
  have hne:∀r ∈ rows,r.1≠.tok t0:=λr U e=>by
   have:=hap.1 r U
   obtain ⟨o,q⟩:=r
   dsimp only at e
   subst e
   exact this rfl
  have hst:∀r ∈ rows,r.1≠.tok t:=λr U=>by
   rcases ht with rfl|ht
   .grind
   .exact h.drop.kX ht r U
  have hf:st0.fresh t:=by
   rcases ht with rfl|ht
   .exact h0.1
   .exact h.fresh ht
  refine k (.tok t) _ rfl (mk t _ (λr U=>?_) hf ⟨h.le.1,λx n hx=>?_⟩ hst (by simp [St.B3]))
  .have h1:=h.ok r (List.mem_cons_of_mem _ U)
   have h2:=hst r U
   have h3:=hne r U
   obtain ⟨o,q⟩:=r
   cases o with
   |tok u=>
    have e1:u≠t:=λe=>h2 kw
    have e2:u≠t0:=λe=>h3 kw
    exact ⟨h1.1,by simp only [St.B3,St.EG];rw [if_neg e1,if_neg e2];exact h1.2⟩
   |any=>exact h1
   |full=>exact h1
  .simp only [St.B3,St.EG]
   split
   .rename_i e;subst e
    rw [hf.2] at hx;cases hx
   .split
    .rename_i e;subst e
     rw [h0.1.2] at hx;cases hx
    .exact h.le.2 x n hx
theorem Rx.Aa {b:Nat} {cs cs':List V} (h:Rx (st0.Aa b cs) st rows):Rx (st0.Aa b cs') (st.Aa b cs') rows:=by
 refine ⟨⟨λx c U=>?_,λx n U=>h.le.2 x n U⟩,λr hr=>?_,h.ap⟩
 .by_cases e:x=b
  .subst e;rw [St.Ai] at U |-;exact U
  .rw [St.As (Ne.symm e)] at U |-
   exact h.le.1 x c (by rw [St.As (Ne.symm e)];exact U)
 .have:=h.ok r hr
  obtain ⟨o,l⟩:=r
  cases o with
  |any=>exact this
  |full=>exact this
  |tok t=>
   have hb:b≠t:=by
    rintro rfl
    have:=this.1.1
    rw [St.Ai] at this;cases this
   exact ⟨⟨by rw [St.As hb];have:=this.1.1;rw [St.As hb] at this;omega,this.1.2⟩,this.2⟩
end
structure Cx (st0:St) (b:Nat) (s:Ad) (st:St) (rows:List (AJ×List Nd)):Prop where
 has:Has st b s
 rx:∃cs,Rx (st0.Aa b cs) st rows
 mu:mu s<=100000000
structure Cy (st0:St) (b:Nat) (s:Ad) (st:St) (rows:List (AJ×List Nd)):Prop where
 has:Has st b s
 rx:∃cs,Rx (st0.Aa b cs) st rows
section
variable {st0 st st':St} {b:Nat} {s s':Ad} {r q:AJ×List Nd} {rows:List (AJ×List Nd)}
theorem Cx.y (h:Cx st0 b s st rows):Cy st0 b s st rows:=⟨h.has,h.rx⟩
theorem Cy.drop (h:Cy st0 b s st (r::rows)):Cy st0 b s st rows:=⟨h.has,h.rx.imp λ_ e=>e.drop⟩
theorem Cx.uM (h:Cx st0 b s st rows) (hu:Ho st st' b s'):Cy st0 b s' st' rows:=by
 obtain ⟨U,cs,rfl⟩:=hu
 obtain ⟨c0,hr⟩:=h.rx
 exact ⟨U,⟨cs,hr.Aa⟩⟩
theorem Cx.hb (h:Cx st0 b s st rows):s.CF.length<=500000000:=E3 h.mu
theorem Cx.start (h:Has st b s) (U:Proofs.Z.mu s<=100000000):Cx st b s st []:=
 ⟨h,by
   rcases h with e|⟨_,_,_,_,_,e⟩
   all_goals exact ⟨_,by rw [St.QH e];exact Rx.start⟩,U⟩
theorem Cx.drop (h:Cx st0 b s st (r::rows)):Cx st0 b s st rows:=⟨h.has,h.rx.imp λ_ e=>e.drop,h.mu⟩
theorem Cx.push (h:Cx st0 b s st rows) (l:List Nd):Cx st0 b s st ((.full,l)::rows):=⟨h.has,h.rx.imp λ_ e=>e.push l,h.mu⟩
theorem Cx.swap (h:Cx st0 b s st (r::q::rows)):Cx st0 b s st (q::r::rows):=⟨h.has,h.rx.imp λ_ e=>e.swap,h.mu⟩
theorem Cx.set (h:Cx st0 b s st rows) (hu:Ho st st' b s') (hm:Proofs.Z.mu s'<=100000000):Cx st0 b s' st' rows:=by
 obtain ⟨U,cs,rfl⟩:=hu
 obtain ⟨c0,hr⟩:=h.rx
 exact ⟨U,⟨cs,hr.Aa⟩,hm⟩
theorem Cx.NK (h:Cx st0 b s st rows) (hu:Ho st st' b s') (U:Proofs.Z.mu s'<=Proofs.Z.mu s):Cx st0 b s' st' rows:=h.set hu (Nat.le_trans U h.mu)
theorem Cx.look (h:Cx st0 b s st rows):Cx st0 b s (st.Aa b (CL s)) rows:=h.NK A0 (Nat.le_refl _)
theorem Cx.Tw {t:Nat} (h:Cx st0 b s st rows) (U:st.fresh t):st0.box t=none/\t≠b:=by
 obtain ⟨c0,hr⟩:=h.rx
 have hb:t≠b:=by
  rintro rfl
  rcases h.has with e|⟨_,_,_,_,_,e⟩<;>(rw [U.1] at e;cases e)
 have:=(hr.fresh U).1
 rw [St.As hb.symm] at this
 simp_all
theorem Cx.ss {z:List V} (h:Cx st0 b s st rows) (hf:st.fresh c):Cx (st0.Aa c cs) b s ((st.Aa c z).Aa c cs) rows:=by
 have hb:=(h.Tw hf).2
 rw [St.set_set]
 obtain ⟨c0,hr⟩:=h.rx
 refine ⟨?_,⟨c0,⟨λx v U=>?_,λx n U=>hr.le.2 x n U⟩,λr hr'=>?_,hr.ap⟩,h.mu⟩
 .rcases h.has with e|⟨q1,q2,q3,q4,q5,e⟩
  .exact .inl (by rw [St.As hb];exact e)
  .exact .inr ⟨q1,q2,q3,q4,q5,by rw [St.As hb];exact e⟩
 .by_cases e:x=c
  .subst e
   rw [St.As hb.symm,St.Ai] at U
   rw [St.Ai];exact U
  .rw [St.As (Ne.symm e)]
   by_cases e2:x=b
   .subst e2
    rw [St.Ai] at U
    exact hr.le.1 x v (by rw [St.Ai];exact U)
   .rw [St.As (Ne.symm e2),St.As (Ne.symm e)] at U
    exact hr.le.1 x v (by rw [St.As (Ne.symm e2)];exact U)
 .have hk:=hr.ok r hr'
  obtain ⟨o,l⟩:=r
  cases o with
  |any=>exact hk
  |full=>exact hk
  |tok t=>
   have htc:t≠c:=by
    rintro rfl
    have:=hk.2
    rw [hf.2] at this;cases this
   have h1:=hk.1.1
   have htb:t≠b:=by
    rintro rfl
    rw [St.Ai] at h1;cases h1
   rw [St.As htb.symm] at h1
   exact ⟨⟨by rw [St.As htb.symm,St.As htc.symm];exact h1,hk.1.2⟩,hk.2⟩
theorem Cx.T5 (h:Cx st0 b s st rows) (U:st.fresh c):Cx (st0.Aa c cs) b s (st.Aa c cs) rows:=by
 have:=h.ss (z:=cs) (cs:=cs) U
 rw [St.set_set] at this;omega
theorem Rx.unbox (h:Rx (st0.Aa c cs) st rows) (hf:st0.box c=none):Rx st0 st rows:=by
 refine ⟨⟨λx v hx=>?_,h.le.2⟩,λr hr=>?_,h.ap⟩
 .have:x≠c:=by rintro rfl;rw [hf] at hx;cases hx
  exact h.le.1 x v (by rw [St.As this.symm];exact hx)
 .have U:=h.ok r hr
  obtain ⟨o,l⟩:=r
  cases o with
  |any=>exact U
  |full=>exact U
  |tok t=>
   have h1:=U.1.1
   have:t≠c:=by rintro rfl;rw [St.Ai] at h1;cases h1
   rw [St.As this.symm] at h1
   exact ⟨⟨h1,U.1.2⟩,U.2⟩
theorem Q4 {cs':List V} (h:c≠b):(st0.Aa c cs).Aa b cs'=(st0.Aa b cs').Aa c cs:=by
 simp only [St.Aa,St.mk.injEq,and_true]
 grind
theorem Cx.unbox {c:Nat} {cs:List V} (h:Cx (st0.Aa c cs) b s st rows) (U:st0.box c=none/\c≠b):Cx st0 b s st rows:=
 ⟨h.has,h.rx.imp λc0 hr=>by rw [Q4 U.2] at hr;exact hr.unbox (by rw [St.As U.2.symm];grind),h.mu⟩
theorem Cy.unbox {c:Nat} {cs:List V} (h:Cy (st0.Aa c cs) b s st rows) (U:st0.box c=none/\c≠b):Cy st0 b s st rows:=
 ⟨h.has,h.rx.imp λc0 hr=>by rw [Q4 U.2] at hr;exact hr.unbox (by rw [St.As U.2.symm];grind)⟩
theorem Cx.boxed (h:Cx (st0.Aa c cs) b s st rows) (U:st0.box c=none/\c≠b):st.box c=some cs:=by
 obtain ⟨c0,hr⟩:=h.rx
 exact hr.le.1 c cs (by rw [St.As U.2.symm,St.Ai])
theorem Has.eq (h:Has st b s) (e:st'.box=st.box):Has st' b s:=by unfold Has at h |-;simp_all
theorem Cx.app {own:AJ} {l new:List Nd} {K:V->St->Prop} (h:Cx st0 b s st ((own,l)::rows)) (hb:l.length+new.length<=1000000000)
 (k:∀U st',Cx st0 b s st' ((U,l++new)::rows)->K (.slice 6 ((l++new).map AP) U) st'):Ah 6 72 (l.map AP) own (new.map AP) st K:=by
 obtain ⟨c0,hr⟩:=h.rx
 exact hr.app hb λU st' e hr'=>k U st' ⟨h.has.eq e,⟨c0,hr'⟩,h.mu⟩
theorem Cx.Hj {own:AJ} {x:Nd} {K:V->St->Prop} (h:Cx st0 b s st ((own,l)::rows)) (hb:l.length+1<=1000000000)
 (k:∀U st',Cx st0 b s st' ((U,l++[x])::rows)->K (.slice 6 ((l++[x]).map AP) U) st'):Ah 6 72 (l.map AP) own [AP x] st K:=h.app (new:=[x]) hb k
theorem Cx.qV {own:AJ} {x y:Nd} {K:V->St->Prop} (h:Cx st0 b s st ((own,l)::rows)) (hb:l.length+2<=1000000000)
 (k:∀U st',Cx st0 b s st' ((U,l++[x,y])::rows)->K (.slice 6 ((l++[x,y]).map AP) U) st'):Ah 6 72 (l.map AP) own [AP x,AP y] st K:=h.app (new:=[x,y]) hb k
theorem Rx.Hj {own:AJ} {x:Nd} {K:V->St->Prop} (h:Rx st0 st ((own,l)::rows)) (hb:l.length+1<=1000000000)
 (k:∀U st',Rx st0 st' ((U,l++[x])::rows)->K (.slice 6 ((l++[x]).map AP) U) st'):Ah 6 72 (l.map AP) own [AP x] st K:=h.app (new:=[x]) hb λU st' _ c=>k U st' c
end
structure AV {α:Type} (en:α->V) (f:FuncId) (mk:Nat->List V) (A:Rd α):Prop where
 ap:∀{st0:St} {b:Nat} {s:Ad} {st:St} {rows:List (AJ×List Nd)} {K:AA->St->Prop},Cx st0 b s st rows->
 Rd.wp A s (λv s'=>∀st',Cx st0 b s' st' rows->K (.ret (en v)) st') (λe s'=>∀st',Cy st0 b s' st' rows->K (.B0 (fault e.1)) st')->PC f (mk b) st K
theorem AV.go {U:α->V} {A:Rd α} {st:St} {Q:α->Ad->Prop} (hf:AV U f mk A) (hc:Cx st0 b s st rows) (h:Rd.wp A s Q E)
 (k:∀v s' st',A.run s=.inr (v,s')->mu s'<=mu s->Cx st0 b s' st' rows->Q v s'->K (.ret (U v)) st') (kb:∀e s' st',Cy st0 b s' st' rows->E e s'->K (.B0 (fault e.1)) st'):PC f (mk b) st K:=
 hf.ap hc (Rd.wp_mono h (λv s' r q st' c=>k v s' st' r (A.le _ _ _ r) c q) (λe s' _ q st' c=>kb e s' st' c q))
theorem AV.qf {U:α->V} {A:Rd α} {st:St} {Q:α->Ad->Prop} (hf:AV U f mk A) (hF:Rd.AR A) (hc:Cx st0 b s st rows) (h:Rd.wp A s Q E)
 (k:∀v s' st',A.run s=.inr (v,s')->mu s'<mu s->Cx st0 b s' st' rows->Q v s'->K (.ret (U v)) st') (kb:∀e s' st',Cy st0 b s' st' rows->E e s'->K (.B0 (fault e.1)) st'):PC f (mk b) st K:=
 hf.go hc h (λv s' st' r m c q=>k v s' st' r (hF _ _ _ r) c q) kb
structure pW {α:Type} (en:α->AJ->V) (ls:α->List Nd) (f:FuncId) (mk:Nat->List V) (A:Rd α):Prop where
 ap:∀{st0:St} {b:Nat} {s:Ad} {st:St} {rows:List (AJ×List Nd)} {K:AA->St->Prop},Cx st0 b s st rows->
 Rd.wp A s (λv s'=>∀own st',Cx st0 b s' st' ((own,ls v)::rows)->K (.ret (en v own)) st') (λe s'=>∀st',Cy st0 b s' st' rows->K (.B0 (fault e.1)) st')->PC f (mk b) st K
theorem pW.go {U:α->AJ->V} {ls:α->List Nd} {A:Rd α} {st:St} {Q:α->Ad->Prop} (hf:pW U ls f mk A) (hc:Cx st0 b s st rows) (h:Rd.wp A s Q E)
 (k:∀v own s' st',A.run s=.inr (v,s')->mu s'<=mu s->Cx st0 b s' st' ((own,ls v)::rows)->Q v s'->K (.ret (U v own)) st') (kb:∀e s' st',Cy st0 b s' st' rows->E e s'->K (.B0 (fault e.1)) st'):PC f (mk b) st K:=
 hf.ap hc (Rd.wp_mono h (λv s' r q own st' c=>k v own s' st' r (A.le _ _ _ r) c q) (λe s' _ q st' c=>kb e s' st' c q))
structure pX (f:FuncId) (mk:Nat->V->List V) (A:List Nd->Rd (List Nd)):Prop where
 ap:∀{st0:St} {b:Nat} {s:Ad} {st:St} {rows:List (AJ×List Nd)} {K:AA->St->Prop} {own:AJ} {l:List Nd},l.length<=90000000->Cx st0 b s st ((own,l)::rows)->
 Rd.wp (A l) s (λl' s'=>∀own' st',Cx st0 b s' st' ((own',l')::rows)->K (.ret (.slice 6 (l'.map AP) own')) st') (λe s'=>∀st',Cy st0 b s' st' rows->K (.B0 (fault e.1)) st')->PC f (mk b (.slice 6 (l.map AP) own)) st K
theorem pX.go {mk:Nat->V->List V} {A:List Nd->Rd (List Nd)} {st:St} {Q:List Nd->Ad->Prop} {own:AJ} (hf:pX f mk A) (hl:l.length<=90000000) (hc:Cx st0 b s st ((own,l)::rows)) (h:Rd.wp (A l) s Q E)
 (k:∀l' U s' st',(A l).run s=.inr (l',s')->mu s'<=mu s->Cx st0 b s' st' ((U,l')::rows)->Q l' s'->K (.ret (.slice 6 (l'.map AP) U)) st') (kb:∀e s' st',Cy st0 b s' st' rows->E e s'->K (.B0 (fault e.1)) st'):PC f (mk b (.slice 6 (l.map AP) own)) st K:=
 hf.ap hl hc (Rd.wp_mono h (λv s' r q own st' c=>k v own s' st' r ((A l).le _ _ _ r) c q) (λe s' _ q st' c=>kb e s' st' c q))
def FG {α:Type} (U:α->V) (f:FuncId) (args:List V) (b:Nat) (A:Rd α):Prop:=∀{st0:St} {s:Ad} {st:St} {rows:List (AJ×List Nd)} {K:AA->St->Prop},Cx st0 b s st rows->
 Rd.wp A s (λv s'=>∀st',Cx st0 b s' st' rows->K (.ret (U v)) st') (λe s'=>∀st',Cy st0 b s' st' rows->K (.B0 (fault e.1)) st')->PC f args st K
theorem AV.a {U:α->V} {A:Rd α} (h:AV U f mk A):FG U f (mk b) b A:=h.ap
theorem AV.q {U:α->V} {A:Rd α} (h:AV U f mk A:=by assumption) (e:args=mk b:=by rfl):FG U f args b A:=e ▸ h.a
theorem FG.go {U:α->V} {A:Rd α} {st:St} {Q:α->Ad->Prop} (hf:FG U f args b A)
 (k:∀v s' st',A.run s=.inr (v,s')->mu s'<=mu s->Cx st0 b s' st' rows->Q v s'->K (.ret (U v)) st') (kb:∀e s' st',Cy st0 b s' st' rows->E e s'->K (.B0 (fault e.1)) st') (hc:Cx st0 b s st rows:=by assumption) (h:Rd.wp A s Q E:=by assumption):PC f args st K:=
 hf hc (Rd.wp_mono h (λv s' r q st' c=>k v s' st' r (A.le _ _ _ r) c q) (λe s' _ q st' c=>kb e s' st' c q))
theorem ai {st:St} {F:AJ->List (AJ×List Nd)} {r:AJ->AA} {r':AA} {o:AJ} (h:∀o st',Cx st0 b s st' (F o)->K (r o) st') (hc:Cx st0 b s st (F o)) (e:r o=r'):∃r2 U,(r2=r'\/r2=r'.wk)/\St.le U st/\K r2 U:=⟨r o,st,.inl e,St.le_refl _,h o st hc⟩
theorem C6 {st:St} {r r':AA} (hc:Cx st0 b s st rows) (h:∀st',Cx st0 b s st' rows->K r st') (e:r=r'.wk):∃r2 U,(r2=r'\/r2=r'.wk)/\St.le U st/\K r2 U:=⟨r,st,.inr e,St.le_refl _,h st hc⟩
theorem BP {st:St} {e:Int} (hc:Cy st0 b s st rows) (h:∀st',Cy st0 b s st' rows->K (.B0 (fault e)) st'):∃r2 U,(r2=.B0 (fault e)\/r2=(AA.B0 (fault e)).wk)/\St.le U st/\K r2 U:=⟨_,st,.inl rfl,St.le_refl _,h st hc⟩
theorem UO {c:Bool} {Q q:Prop} (h:if c=true then P else Q) (U:c=true->P->p) (k2:c=false->Q->q):Bn c p q:=Wk (λe=>U e kw) (λe=>k2 e kw)
theorem GQ [BEq α] [LawfulBEq α] {a b:α} {Q q:Prop} (h:if (a==b)=true then P else Q) (U:a=b->P->p) (k2:¬a=b->Q->q):Bn (a==b) p q:=
 Wg (λe=>U e kw) (λe=>k2 e kw)
theorem cg {c:Prop} [Decidable c] {Q q:Prop} (h:if c then P else Q) (U:c->P->p) (k2:¬c->Q->q):Bn (decide c) p q:=
 Wh (λe=>U e kw) (λe=>k2 e kw)
theorem q6 {b:Bool} {q:Prop} (h:b=true) (k:p):Bn b p q:=Wk (λ_=>k) (λe=>by simp_all)
theorem fJ {b:Bool} {q:Prop} (h:b=false) (k:q):Bn b p q:=Wk (λe=>by simp_all) (λ_=>k)
structure LS (σ:Type) where
 x:σ
 s:Ad
 m:St
 o:AJ
theorem Cm {st:St} {Q:β->Ad->Prop} {body:σ->Rd (Sum σ β)} {x0:σ}
 (f:σ->AJ->List (Nat×V)) (g:σ->AJ->List (Nat×List V)) (keep kb:List Nat) (rw:σ->AJ->List (AJ×List Nd)) (wt:σ->Nat) (U:AJ) (hc:Cx st0 b s st (rw x0 U)) (h:Rd.wp (Rd.loop body x0) s Q E) (hl:wt x0+4*mu s<=500000000)
 (he:(env.OI (f x0 U) (g x0 U) keep kb).Ff env)
 (hb:∀x s1 st1 own1,Cx st0 b s1 st1 (rw x own1)->Rd.wp (body x) s1 (Rd.again body s1 Q E) E->wt x+4*mu s1<=500000000->mu s1<=mu s->
   ih (B4 (λenv' st'=>∃y:LS σ,(Cx st0 b y.s y.m (rw y.x y.o)/\Rd.wp (Rd.loop body y.x) y.s Q E/\wt y.x+4*mu y.s<=500000000/\mu y.s<=mu s)/\mu y.s<mu s1/\(env.OI (f y.x y.o) (g y.x y.o) keep kb).Ff env'/\St.le y.m st') Q0)
    (env.OI (f x own1) (g x own1) keep kb) st1):
 ∃(α:Type) (E:α->Env) (S:α->St) (J:α->Prop) (μ:α->Nat) (x0:α),J x0/\(E x0).Ff env/\St.le (S x0) st/\
  ∀x,J x->ih (B4 (λenv' st'=>∃y,J y/\μ y<μ x/\(E y).Ff env'/\St.le (S y) st') Q0) (E x) (S x):=
 ⟨LS σ,λy=>env.OI (f y.x y.o) (g y.x y.o) keep kb,λy=>y.m,
   λy=>Cx st0 b y.s y.m (rw y.x y.o)/\Rd.wp (Rd.loop body y.x) y.s Q E/\wt y.x+4*mu y.s<=500000000/\mu y.s<=mu s,λy=>mu y.s,⟨x0,s,st,U⟩,⟨hc,h,hl,Nat.le_refl _⟩,he,St.le_refl _,
   λy ⟨j1,j2,j3,j4⟩=>hb y.x y.s y.m y.o j1 (by rw [<-Rd.wp_loop];exact j2) j3 j4⟩
section
variable {st0 st:St} {b:Nat} {s:Ad} {rows:List (AJ×List Nd)} {K:AA->St->Prop}
theorem QC (hc:Cx st0 b s st rows) (k:∀st',Cx st0 b s st' rows->K (.ret (Fl (Ab s).1)) st'):PC 83 [.ptr b 0] st K:=Gn hc.has hc.hb (k _ hc.look)
theorem nN (hc:Cx st0 b s st rows) (U:∀st',Cx st0 b s st' rows->K (.ret (.bool (AU s k x))) st'):PC 156 [.ptr b 0,.int .i64 k,.str x] st K:=Yz hc.has hc.hb (U _ hc.look)
theorem YA (hc:Cx st0 b s st rows) (e:AU s k x=true) (U:∀st',Cx st0 b s st' rows->K (.ret (.bool true)) st'):PC 156 [.ptr b 0,.int .i64 k,.str x] st K:=nN hc kw
theorem iF (hc:Cx st0 b s st rows) (e:AU s k x=false) (U:∀st',Cx st0 b s st' rows->K (.ret (.bool false)) st'):PC 156 [.ptr b 0,.int .i64 k,.str x] st K:=nN hc kw
theorem iE {Q:Prop} (hc:Cx st0 b s st rows) (h:if AU s k x=true then P else Q) (U:∀st',Cx st0 b s st' rows->AU s k x=true->P->K (.ret (.bool true)) st') (k2:∀st',Cx st0 b s st' rows->AU s k x=false->Q->K (.ret (.bool false)) st'):
 PC 156 [.ptr b 0,.int .i64 k,.str x] st K:=by
 cases e:AU s k x with
 |true=>exact YA hc e λst' c=>U st' c e kw
 |false=>exact iF hc e λst' c=>k2 st' c e kw
theorem GJ:AV enc 121 (λb=>[.ptr b 0]) Ay:=by
 refine ⟨λ{st0 b s st rows K} hc h=>?_⟩
 refine LM hc.has hc.hb (λe st' U=>?_) (λe=>?_)
 .unfold Rd.wp at h;rw [Bu e] at h;exact h st' (hc.NK U (Ep e).1)
 .unfold Rd.wp at h;rw [Hg e] at h;exact h _ hc.look.y
theorem MS (hc:Cx st0 b s st rows) (h:Rd.wp Ay s Q E) (e:AU s k x=true) (hk:k≠0/\k≠21) (kk:∀s' st',(Ab s).2.1=s'->mu s'<mu s->Cx st0 b s' st' rows->Q (Bk (Ab s).1) s'->K (.ret (enc (Bk (Ab s).1))) st'):
 PC 121 [.ptr b 0] st K:=by
 unfold Rd.wp at h
 rw [lk e hk.1] at h
 have U:=Cp e hk.1 hk.2
 exact LM hc.has hc.hb (λ_ st' hu=>kk _ st' rfl U (hc.NK hu (Nat.le_of_lt U)) h) (λn=>absurd (CS e hk.1) n)
theorem MT (hc:Cx st0 b s st rows) (h:Rd.wp Ay s Q E) (hk:(Ab s).1.kind≠0/\(Ab s).1.kind≠21) (kk:∀s' st',(Ab s).2.1=s'->mu s'<mu s->Cx st0 b s' st' rows->Q (Bk (Ab s).1) s'->K (.ret (enc (Bk (Ab s).1))) st'):
 PC 121 [.ptr b 0] st K:=by
 have e:=Dn hk.1
 unfold Rd.wp at h
 rw [Bu e] at h
 have U:=(Ep e).2 hk.2
 exact LM hc.has hc.hb (λ_ st' hu=>kk _ st' rfl U (hc.NK hu (Nat.le_of_lt U)) h) (λn=>absurd e n)
theorem RL {Q:α->Ad->Prop} (hc:Cx st0 b s st rows) (h:Rd.wp (IG:Rd α) s Q E) (U:∀e s' st',Cy st0 b s' st' rows->E e s'->K (.B0 (fault e.1)) st'):PC 171 [.ptr b 0] st K:=
 fG hc.has hc.hb (U _ _ _ hc.look.y h)
theorem UB:AV enc 118 (λb=>[.ptr b 0,.int .i64 k,.str x]) (Bc k x):=by
 refine ⟨λ{st0 b s st rows K} hc h=>?_⟩
 unfold Bc at h
 rw [Rd.Al,Rd.AD] at h
 refine lT hc.has hc.hb (λU e2 st' hu=>?_) (λU e2=>?_) (λU=>?_)
 .rw [if_pos U] at h
  unfold Rd.wp at h;rw [Bu e2] at h;exact h st' (hc.NK hu (Ep e2).1)
 .rw [if_pos U] at h
  unfold Rd.wp at h;rw [Hg e2] at h;exact h _ hc.look.y
 .rw [if_neg kw] at h
  exact h _ hc.look.y
theorem tz (hc:Cx st0 b s st rows) (U:mu s'<=100000000) (k:∀st',Cx st0 b s' st' rows->K (.ret (.Bz [])) st'):PC 72 [.ptr b 0,DJ s'] st K:=nC hc.has λst' hu=>k st' (hc.set hu U)
theorem KO {Q:Unit->Ad->Prop} (hc:Cx st0 b s st rows) (h:Rd.wp DG s Q E) (hk:(Ab s).1.kind≠0/\(Ab s).1.kind≠21) (kk:∀s' st',(Ab s).2.1=s'->mu s'<mu s->Cx st0 b s' st' rows->Q () s'->K (.ret (Fl (Ab s).1)) st'):
 PC 139 [.ptr b 0] st K:=by
 have e:=Dn hk.1
 unfold DG at h
 rw [Rd.wp_seq] at h
 unfold Rd.wp at h
 rw [Bu e] at h
 have U:=(Ep e).2 hk.2
 exact Ud hc.has hc.hb (λ_ st' hu=>kk _ st' rfl U (hc.NK hu (Nat.le_of_lt U)) h) (λn=>absurd e n)
theorem bF {Q:Unit->Ad->Prop} (hc:Cx st0 b s st rows) (h:if AU (Ab s).2.1 k x=true then Rd.wp DG s Q E else P) (hk:(Ab s).1.kind≠0/\(Ab s).1.kind≠21)
 (kk:∀s' st',mu s'<mu s->Cx st0 b s' st' rows->(if AU s' k x=true then Q () s' else P)->K (.ret (Fl (Ab s).1)) st'):PC 139 [.ptr b 0] st K:=by
 have e:=Dn hk.1
 have U:=(Ep e).2 hk.2
 refine Ud hc.has hc.hb (λ_ st' hu=>kk _ st' U (hc.NK hu (Nat.le_of_lt U)) ?_) (λn=>absurd e n)
 split
 .rename_i hi
  rw [if_pos hi] at h
  unfold DG at h
  rw [Rd.wp_seq] at h
  unfold Rd.wp at h
  rw [Bu e] at h
  exact h
 simp_all
theorem F5 {s0:Ad} (hc:Cx st0 b s st rows) (U:mu s0<=100000000) (k:∀st',Cx st0 b s0 st' rows->K (.ret (.Bz [])) st'):PC 72 [.ptr b 0,.agg s0.cells] st K:=tz hc U k
theorem sM (hc:Cx st0 b s st rows) (hk:(Ab s).1.kind≠0/\(Ab s).1.kind≠21) (kk:∀s' st',(Ab s).2.1=s'->mu s'<mu s->Cx st0 b s' st' rows->K (.ret (enc (Bk (Ab s).1))) st'):PC 121 [.ptr b 0] st K:=by
 have e:=Dn hk.1
 have U:=(Ep e).2 hk.2
 exact LM hc.has hc.hb (λ_ st' hu=>kk _ st' rfl U (hc.NK hu (Nat.le_of_lt U))) (λn=>absurd e n)
end
theorem CU (h:P:=by with_reducible first|(show _/\_;first|exact Wa)|(show Bn _ _ _;first|exact Wb|exact Wc)|fail):P:=h
theorem A6 {A:Prop} (k:A) (h:A->P:=by intro k;with_reducible first|(show _/\_;first|exact Wd EQ k|exact Wm ‹_› AC k|exact Wn AC AC k|exact Wo AC AC k|exact Wp AC AC AC k|exact Wr Do AC AC k|exact Ws Do k|exact WB ‹_› AC k|exact WC AC AC k|exact WD AC AC k|exact WE AC AC AC k)|(show Bn _ _ _;first|exact Wt IR k|exact Wu IR k|exact Wv AC k|exact Ww AC k|exact q6 ‹_› k|exact fJ ‹_› k|exact Wi k|exact Wj k)|(intro x y z;exact Wl k x y z)|(intro x y z;exact Wz k x y z)|(intro x y z;exact WA k x y z)|(show Exists _;first|exact Wq AC AC k)|fail):P:=h k
theorem CV {B C:V->Prop} (k:V) (l:B k) (m:C k) (h:∀k,B k->C k->P:=by intro k l m;with_reducible first|(show Exists _;first|exact We k l m|exact W8 GE k l m|exact W0 GE k l m|exact W9 k l m)|fail):P:=h k l m
theorem A7 {A:Prop} (k:A) (l:B) (h:A->B->P:=by intro k l;with_reducible first|(show Bn _ _ _;first|exact GQ ‹_› k l|exact cg ‹_› k l|exact UO ‹_› k l)|fail):P:=h k l
theorem A8 {A:Prop} (k:A) (l:B) (h:A->B->P:=by intro k l;with_reducible first|(show Bn _ _ _;first|exact Wf Do k l|exact Wg k l|exact Wh k l|exact Wk k l)|fail):P:=h k l
theorem UD {A:Prop} (k:A) (l:B) (h:A->B->P:=by intro k l;with_reducible first|(intro x y;exact Wx k l x y)|(intro x y;exact Wy k l x y)|fail):P:=h k l
theorem Ac {p:Env->Prop} (h:∀e,p e):∀e:Env,p e:=h
theorem XY {es:List (List V)} {e:List V} {K:List V->Prop} (U:0<=i) (h:es[i.toNat]? =some e) (k:K e):0<=i/\∃e,es[i.toNat]? =some e/\K e:=⟨U,e,h,k⟩
theorem iD {l:List Int} {x:Int} {K:List V->Prop} (h:l[i.toNat]? =some x) (U:0<=i) (k:K [.int .i64 x]):0<=i/\∃e,(ints l)[i.toNat]? =some e/\K e:=⟨U,_,by simp [ints,h],k⟩
theorem rQ {es:List α} {n:Nat} {K:Nat->Prop} (h:es.length=n) (k:K n):∀m,m=es.length->m<C9->K m:=λm U _=>by rw [h] at U;subst U;exact k
section
variable {st:St} {K:AA->St->Prop}
theorem Ix (h:K (.ret (.bool (Iw t))) st):PC 341 [Fl t] st K:=by
 refine pB Tryz.func341 ?_
 repeat' ((conv=>whnf);first|(refine A6 ?_;intros)|(refine A7 ?_ ?_<;>intro e h)|(refine A8 ?_ ?_<;>intro _)|fail)
 all_goals conv=>whnf
 all_goals (refine At h ?_;clear h;simp_all [Iw])
theorem nK (h:K (.ret (.bool (IZ t))) st):PC 343 [Fl t] st K:=by
 refine pB Tryz.func343 ?_
 repeat' ((conv=>whnf);first|(refine A6 ?_;intros)|(refine A7 ?_ ?_<;>intro e h)|(refine A8 ?_ ?_<;>intro _)|refine Ix ?_)
 all_goals conv=>whnf
 all_goals (refine At h ?_;clear h;simp_all [IZ])
theorem UK (h:K (.ret (.bool (B5 t))) st):PC 207 [Fl t] st K:=by
 refine pB Tryz.func207 ?_
 repeat' ((conv=>whnf);first|(refine A6 ?_;intros)|(refine A7 ?_ ?_<;>intro e h)|(refine A8 ?_ ?_<;>intro _)|fail)
 all_goals conv=>whnf
 all_goals (refine At h ?_;clear h;simp_all [B5])
theorem L1 (h:K (.ret (.bool (Cw t))) st):PC 142 [Fl t] st K:=by
 refine pB Tryz.func142 ?_
 repeat' ((conv=>whnf);first|(refine A6 ?_;intros)|(refine A7 ?_ ?_<;>intro e h)|(refine A8 ?_ ?_<;>intro _)|refine UK ?_)
 all_goals conv=>whnf
 all_goals (refine At h ?_;clear h;simp_all [Cw,B5,lQ,uv,bU,uu])
theorem Ts (h:K (.ret (.bool (Eb t))) st):PC 143 [Fl t] st K:=by
 refine pB Tryz.func143 ?_
 repeat' ((conv=>whnf);first|(refine A6 ?_;intros)|(refine A7 ?_ ?_<;>intro e h)|(refine A8 ?_ ?_<;>intro _)|fail)
 all_goals conv=>whnf
 all_goals (refine At h ?_;clear h;simp_all [Eb])
theorem Ua (h:K (.ret (.bool (CG t))) st):PC 140 [Fl t] st K:=by
 refine pB Tryz.func140 ?_
 repeat' ((conv=>whnf);first|(refine A6 ?_;intros)|(refine A7 ?_ ?_<;>intro e h)|(refine A8 ?_ ?_<;>intro _)|fail)
 all_goals conv=>whnf
 all_goals (refine At h ?_;clear h;simp_all [CG])
theorem J8 {own:AJ} (h:K (.ret (enc (Aq k l))) st):PC 217 [.int .i64 k,.slice 6 (l.map AP) own] st K:=by
 refine pB Tryz.func217 ?_
 repeat' ((conv=>whnf);first|(refine A6 ?_;intros)|(refine A7 ?_ ?_<;>intro e h)|(refine A8 ?_ ?_<;>intro _)|fail)
 all_goals exact EH (St.le_refl _) Ca h
theorem aO {a:Nd} {own:AJ} (h:K (.ret (enc (Aq k [a]))) st):PC 217 [.int .i64 k,.slice 6 [AP a] own] st K:=J8 (l:=[a]) h
theorem aP {a b:Nd} {own:AJ} (h:K (.ret (enc (Aq k [a,b]))) st):PC 217 [.int .i64 k,.slice 6 [AP a,AP b] own] st K:=J8 (l:=[a,b]) h
theorem TU {a b c:Nd} {own:AJ} (h:K (.ret (enc (Aq k [a,b,c]))) st):PC 217 [.int .i64 k,.slice 6 [AP a,AP b,AP c] own] st K:=J8 (l:=[a,b,c]) h
theorem aQ {a b c d:Nd} {own:AJ} (h:K (.ret (enc (Aq k [a,b,c,d]))) st):PC 217 [.int .i64 k,.slice 6 [AP a,AP b,AP c,AP d] own] st K:=J8 (l:=[a,b,c,d]) h
theorem rq {own:AJ} (h:K (.ret (enc (LC k l))) st):PC 286 [.int .i64 k,.slice 6 (l.map AP) own] st K:=by
 refine pB Tryz.func286 ?_
 match l with
 |[x]=>
  have h:K (.ret (enc x)) st:=h
  have hn:(([x]:List Nd).length:Int)=1:=rfl
  repeat' ((conv=>whnf);first|(refine A6 ?_;intros)|(refine A7 ?_ ?_<;>intro e h)|(refine A8 ?_ ?_<;>intro _)|refine BV (l:=[x]) (λ_=>?_)|refine XY AC rfl ?_)
  all_goals exact BJ rfl h
 |[]=>
  have h:K (.ret (enc (Aq k []))) st:=h
  have hn:¬(([]:List Nd).length:Int)=1:=Do
  repeat' ((conv=>whnf);first|(refine A6 ?_;intros)|(refine A7 ?_ ?_<;>intro e h)|(refine A8 ?_ ?_<;>intro _)|refine BV (l:=[]) (λ_=>?_)|refine J8 (l:=[]) ?_)
  all_goals exact BJ rfl h
 |x::y::r=>
  have h:K (.ret (enc (Aq k (x::y::r)))) st:=h
  have hn:¬((x::y::r).length:Int)=1:=by simp only [List.length_cons];omega
  repeat' ((conv=>whnf);first|(refine A6 ?_;intros)|(refine A7 ?_ ?_<;>intro e h)|(refine A8 ?_ ?_<;>intro _)|refine BV (l:=x::y::r) (λ_=>?_)|refine J8 (l:=x::y::r) ?_)
  all_goals exact BJ rfl h
theorem TB (h:K (.ret (.bool (JD n))) st):PC 403 [enc n] st K:=by
 refine pB Tryz.func403 ?_
 repeat' ((conv=>whnf);first|(refine A6 ?_;intros)|(refine A7 ?_ ?_<;>intro e h)|(refine A8 ?_ ?_<;>intro _)|refine gb ?_)
 all_goals conv=>whnf
 all_goals (refine At h ?_;clear h;simp_all [X5])
theorem av (U:n.size<=1000000000) (h:K (.ret (.bool (XE n))) st):PC 287 [enc n] st K:=by
 refine pB Tryz.func287 ?_
 have hs:(strs (Gm n).1).length=(Gm n).1.length:=by simp [strs]
 repeat' ((conv=>whnf);first|(refine A6 ?_;intros)|(refine A7 ?_ ?_<;>intro e h)|(refine A8 ?_ ?_<;>intro _)|refine jf U ?_|refine rQ hs ?_)
 all_goals conv=>whnf
 all_goals (refine At h ?_;clear h;simp_all [XE])
end
theorem Kt (h:B5 t=true):t.kind≠0/\t.kind≠21:=by
 unfold B5 at h
 simp only [Bool.or_eq_true,Bool.and_eq_true,beq_iff_eq] at h
 omega
theorem NG (h:Iw t=true):t.kind≠0/\t.kind≠21:=by
 unfold Iw at h
 simp only [Bool.or_eq_true,Bool.and_eq_true,beq_iff_eq] at h
 omega
theorem HD (h:CG t=true):t.kind≠0/\t.kind≠21:=by
 unfold CG at h
 simp only [Bool.or_eq_true,Bool.and_eq_true,beq_iff_eq] at h
 omega
abbrev pv (b d:Nat):V:=.agg [.ptr b 0,.int .i64 (d:Int)]
section
variable {st0 st:St} {b d:Nat} {s:Ad} {rows:List (AJ×List Nd)} {K:AA->St->Prop}
theorem bh (hc:Cx st0 b s st rows) (kk:∀st',Cx st0 b s st' rows->K (.ret (.bool (AU s 15 x))) st'):PC 213 [pv b d,.str x] st K:=by
 refine pB Tryz.func213 ?_
 repeat' ((conv=>whnf);first|(refine A6 ?_;intros)|(refine A7 ?_ ?_<;>intro e h)|(refine A8 ?_ ?_<;>intro _)|refine nN hc (λU hc=>?_))
 all_goals conv=>whnf
 all_goals exact At (kk U hc) ‹_›
theorem T3 (hc:Cx st0 b s st rows) (e:AU s 15 x=true) (U:∀st',Cx st0 b s st' rows->K (.ret (.bool true)) st'):PC 213 [pv b d,.str x] st K:=bh hc (by rw [e];exact U)
theorem Y5 (hc:Cx st0 b s st rows) (e:AU s 15 x=false) (U:∀st',Cx st0 b s st' rows->K (.ret (.bool false)) st'):PC 213 [pv b d,.str x] st K:=bh hc (by rw [e];exact U)
theorem sn {Q:Prop} (hc:Cx st0 b s st rows) (h:if AU s 15 x=true then P else Q) (U:∀st',Cx st0 b s st' rows->AU s 15 x=true->P->K (.ret (.bool true)) st') (k2:∀st',Cx st0 b s st' rows->AU s 15 x=false->Q->K (.ret (.bool false)) st'):
 PC 213 [pv b d,.str x] st K:=by
 cases e:AU s 15 x with
 |true=>exact T3 hc e λst' c=>U st' c e (by rw [if_pos e] at h;exact h)
 |false=>exact Y5 hc e λst' c=>k2 st' c e (by rw [if_neg (by rw [e];decide)] at h;exact h)
theorem Eo {own:AJ} (h0:ks.contains 0=false):AV enc 157 (λb=>[.ptr b 0,.slice 1 (ints ks) own]) (Di ks):=by
 refine ⟨λ{st0 b s st rows K} hc h=>?_⟩
 unfold Di at h
 simp only [Rd.Al,Rd.AD] at h
 refine pB Tryz.func157 ?_
 repeat' ((conv=>whnf);first|(refine A6 ?_;intros)|(refine A7 ?_ ?_<;>intro e h)|(refine A8 ?_ ?_<;>intro _)|refine QC ‹_› (λU hc=>?_)|refine MS ‹_› ‹_› ‹_› Do (λs1 U hz hm hc h=>?_)|refine MT ‹_› ‹_› (by first|exact Kt ‹_›|exact NG ‹_›|omega) (λs1 U hz hm hc h=>?_)|refine GJ.go ‹_› ‹_› (λn s1 U hr hm hc h=>?_) (λe s1 U hc h=>?_)|refine RL ‹_› ‹_› (λe s1 U hc h=>?_)|exact BP (Cx.y ‹_›) ‹_›|exact BP (Cx.y (Cx.drop ‹_›)) ‹_›|refine BV (λ_=>?_)|refine Ac (λe1=>?_)|exact ⟨⟨_,_,_,_⟩,⟨‹_›,Rd.EK ‹_› f7,f9,f7⟩,f7,(by refine ⟨rfl,?_,?_,rfl⟩<;>repeat' (first|exact trivial|exact rfl|refine And.intro ?_ ?_)),St.le_refl _⟩|exact ai ‹_› ‹_› rfl|exact C6 ‹_› ‹_› rfl|exact C6 ‹_› ‹_› Ca|exact C6 (Cx.drop ‹_›) ‹_› rfl|exact C6 (Cx.drop ‹_›) ‹_› Ca|exact BP ‹_› ‹_›|exact BP (Cy.drop ‹_›) ‹_›|exact BP (Cy.drop (Cy.drop ‹_›)) ‹_›|refine WA (λ_=>?_))
 refine TI (α:=Nat×St) (λx=>[(12,.int .i64 (x.1:Int))]) [0,4,5,10,11] [0,1] (λx=>x.2) (λx=>x.1<=ks.length/\Cx st0 b s x.2 rows/\ks.contains (Ab s).1.kind=(ks.drop x.1).contains (Ab s).1.kind) (λx=>ks.length - x.1) (0,_) ⟨Nat.zero_le _,hc,rfl⟩ Yl (St.le_refl _) ?_
 rintro ⟨k,st2⟩ ⟨hk,hc2,hi⟩
 dsimp only at hk hc2 hi |-
 by_cases hlt:k<ks.length
 .obtain ⟨x,hx⟩:∃x,ks[(k:Int).toNat]? =some x:=⟨_,List.getElem?_eq_getElem hlt⟩
  have hx':ks[k]? =some x:=hx
  rw [drop_at hx',List.contains_cons] at hi
  have hx1:=hx
  by_cases e:(Ab s).1.kind=x
  .rw [beq_iff_eq.2 e,Bool.true_or] at hi
   rw [if_pos hi] at h
   have hkd:(Ab s).1.kind≠0:=λz=>by rw [z] at hi;rw [h0] at hi;cases hi
   have hc:=hc2
   repeat' ((conv=>whnf);first|refine iD hx AC ?_|(refine A6 ?_;intros)|(refine A7 ?_ ?_<;>intro e h)|(refine A8 ?_ ?_<;>intro _)|refine GJ.go hc h (λn s1 U hr hm hc h=>?_) (λe s1 U hc h=>?_)|exact C6 hc h rfl|exact BP hc h)
  .rw [beq_eq_false_iff_ne.2 e,Bool.false_or] at hi
   repeat' ((conv=>whnf);first|refine iD hx AC ?_|(refine A6 ?_;intros)|(refine A7 ?_ ?_<;>intro e h)|(refine A8 ?_ ?_<;>intro _)|fail)
   all_goals conv=>whnf
   all_goals exact ⟨(k+1,st2),⟨hlt,hc2,hi⟩,Nat.sub_lt_sub_left hlt (Nat.lt_succ_self k),Yl,St.le_refl _⟩
 .rw [List.drop_eq_nil_iff.2 AC] at hi
  rw [if_neg (by rw [hi];exact Bool.false_ne_true)] at h
  have hc:=hc2
  repeat' ((conv=>whnf);first|(refine A6 ?_;intros)|(refine A7 ?_ ?_<;>intro e h)|(refine A8 ?_ ?_<;>intro _)|refine RL hc h (λe s1 U hc h=>?_)|exact BP hc h)
theorem iI:AV enc 157 (λb=>[.ptr b 0,.slice 1 [[.int .i64 1],[.int .i64 2],[.int .i64 3],[.int .i64 4]] .full]) (Di [1,2,3,4]):=Eo (ks:=[1,2,3,4]) Do
theorem O1:AV enc 283 (λb=>[pv b d]) HA:=by
 refine ⟨λ{st0 b s st rows K} hc h=>?_⟩
 unfold HA at h
 simp only [Rd.Al,Rd.AD,Rd.wp_seq,Rd.wp_ret] at h
 refine pB Tryz.func283 ?_
 repeat' ((conv=>whnf);first|exact CU|(refine A6 ?_;intros)|(refine CV ?_ ?_ ?_;rotate_left)|(refine A7 ?_ ?_<;>intro e h)|(refine A8 ?_ ?_<;>intro _)|refine QC ‹_› (λU hc=>?_)|refine MS ‹_› ‹_› ‹_› Do (λs1 U hz hm hc h=>?_)|refine MT ‹_› ‹_› (by first|exact Kt ‹_›|exact NG ‹_›|omega) (λs1 U hz hm hc h=>?_)|refine GJ.go ‹_› ‹_› (λn s1 U hr hm hc h=>?_) (λe s1 U hc h=>?_)|refine UB.go ‹_› ‹_› (λn s1 U hr hm hc h=>?_) (λe s1 U hc h=>?_)|exact BP (Cx.y ‹_›) ‹_›|exact BP (Cx.y (Cx.drop ‹_›)) ‹_›|refine Ix ?_|refine aO ?_|refine aP ?_|refine TU ?_|refine aQ ?_|refine J8 ?_|refine Ac (λe1=>?_)|exact ⟨⟨_,_,_,_⟩,⟨‹_›,Rd.EK ‹_› f7,f9,f7⟩,f7,(by refine ⟨rfl,?_,?_,rfl⟩<;>repeat' (first|exact trivial|exact rfl|refine And.intro ?_ ?_)),St.le_refl _⟩|exact ai ‹_› ‹_› rfl|exact C6 ‹_› ‹_› rfl|exact C6 ‹_› ‹_› Ca|exact C6 (Cx.drop ‹_›) ‹_› rfl|exact C6 (Cx.drop ‹_›) ‹_› Ca|exact BP ‹_› ‹_›|exact BP (Cy.drop ‹_›) ‹_›|exact BP (Cy.drop (Cy.drop ‹_›)) ‹_›|refine iI.go hc h (λn s1 U hr hm hc h=>?_) (λe s1 U hc h=>?_)|refine Af [(0,true),(1,true),(2,true),(3,true),(4,false),(5,true),(6,false),(7,false)] [1] GE ?_|with_reducible refine WF ?_)
end
theorem Fh (h:P:=by (with_reducible show ∃_,_);first|exact ⟨⟨_,_,_,_⟩,⟨‹_›,Rd.EK ‹_› f7,f9,f7⟩,f7,Yl,St.le_refl _⟩|exact BP (Cx.y ‹_›) ‹_›|exact BP (Cx.y (Cx.drop ‹_›)) ‹_›|exact ai ‹_› ‹_› rfl|exact C6 ‹_› ‹_› rfl|exact C6 ‹_› ‹_› Ca|exact C6 (Cx.drop ‹_›) ‹_› rfl|exact C6 (Cx.drop ‹_›) ‹_› Ca|exact BP ‹_› ‹_›|exact BP (Cy.drop ‹_›) ‹_›|exact BP (Cy.drop (Cy.drop ‹_›)) ‹_›|fail):P:=h
theorem K6 {A:Prop} (k:A) (h:A->P:=by intro k;(with_reducible show Ah _ _ _ _ _ _ _);first|exact Cx.Hj ‹_› i6 k|exact Cx.Hj (Cx.push ‹_› _) i6 k|fail):P:=h k
theorem HH {A:Prop} (k:A) (h:A->P:=by intro k;(with_reducible show PC _ _ _ _);first|((with_reducible show PC 156 _ _ _);exact YA ‹_› ‹_› k)|((with_reducible show PC 156 _ _ _);exact iF ‹_› ‹_› k)|((with_reducible show PC 213 _ _ _);exact T3 ‹_› ‹_› k)|((with_reducible show PC 213 _ _ _);exact Y5 ‹_› ‹_› k)|((with_reducible show PC 83 _ _ _);exact QC ‹_› k)|fail):P:=h k
theorem Ll {A:Prop} (k:A) (l:B) (h:A->B->P:=by intro k l;(with_reducible show PC _ _ _ _);first|((with_reducible show PC 156 _ _ _);exact iE ‹_› ‹_› k l)|((with_reducible show PC 213 _ _ _);exact sn ‹_› ‹_› k l)|fail):P:=h k l
theorem Kq {A:Prop} (k:A) (h:A->P:=by intro k;(with_reducible show PC _ _ _ _);first|((with_reducible show PC 121 _ _ _);exact MS ‹_› ‹_› ‹_› Do k)|((with_reducible show PC 121 _ _ _);exact MT ‹_› ‹_› (by first|exact Kt ‹_›|exact NG ‹_›|omega) k)|fail):P:=h k
theorem IE {A:Prop} (k:A) (l:B) (h:A->B->P:=by intro k l;(with_reducible show PC _ _ _ _);first|((with_reducible show PC 121 _ _ _);exact GJ.go ‹_› ‹_› k l)|((with_reducible show PC 118 _ _ _);exact UB.go ‹_› ‹_› k l)|fail):P:=h k l
theorem fv {A:Prop} (k:A) (h:A->P:=by intro k;(with_reducible show PC _ _ _ _);first|((with_reducible show PC 171 _ _ _);exact RL ‹_› ‹_› k)|fail):P:=h k
theorem JQ {A:Prop} (k:A) (h:A->P:=by intro k;(with_reducible show PC _ _ _ _);first|((with_reducible show PC 341 _ _ _);exact Ix k)|((with_reducible show PC 343 _ _ _);exact nK k)|((with_reducible show PC 207 _ _ _);exact UK k)|((with_reducible show PC 217 _ _ _);exact aO k)|((with_reducible show PC 217 _ _ _);exact aP k)|((with_reducible show PC 217 _ _ _);exact TU k)|((with_reducible show PC 217 _ _ _);exact aQ k)|((with_reducible show PC 217 _ _ _);exact J8 k)|((with_reducible show PC 286 _ _ _);exact rq k)|fail):P:=h k
theorem sL (h:Iw t=true):t.kind≠21:=(NG h).2
theorem P0:Rd.AR HA:=Rd.AR.look λs v s' h=>by
 split at h
 .rename_i hs
  exact Rd.AR.at (λv s' e=>Hf e (sL hs)) h
 .exact Rd.AR.seq (Lr Do) s v s' h
section
variable {st0 st:St} {b d:Nat} {s:Ad} {rows:List (AJ×List Nd)} {K:AA->St->Prop}
attribute [local irreducible] Go.Aw.Ah
theorem kq {U:Rd Nd} (ho:AV enc 342 (λb=>[pv b d]) U):pW (λp own=>.Bz [.slice 6 (p.1.map AP) own,.bool p.2]) (·.1) 285 (λb=>[pv b d,.bool br]) (N0 U br):=by
 refine ⟨λ{st0 b s st rows K} hc h=>?_⟩
 unfold N0 at h
 refine pB Tryz.func285 ?_
 have hmu:=hc.mu
 repeat' ((conv=>whnf);(first|refine A6 ?_|refine A7 ?_ ?_|refine A8 ?_ ?_|refine UD ?_ ?_|fail)<;>intros)
 refine Cm (λl own=>[(4,.slice 6 (l.map AP) own)]) (λ_ _=>[]) [1,2] [0] (λl own=>(own,l)::rows) (λl=>l.length) .full (Cx.push ‹_› []) ‹_› ke Yl ?_
 intro l s1 st1 own1 hc h hl hm1
 simp only [jX,Rd.Al,Rd.AD,Rd.wp_seq,Rd.wp_ret,Rd.Br] at h
 repeat' ((conv=>whnf);(first|refine A6 ?_|refine A7 ?_ ?_|refine A8 ?_ ?_|refine UD ?_ ?_|fail)<;>intros)
 unfold Qp at h
 refine Cm (λl own=>[(4,.slice 6 (l.map AP) own)]) (λ_ _=>[]) [1,2] [0] (λl own=>(own,l)::rows) (λl=>l.length) own1 ‹_› ‹_› hl Yl ?_
 intro l2 s2 st2 own2 hc h hl hm2
 simp only [YO,Rd.Al,Rd.AD,Rd.wp_seq,Rd.wp_ret,Rd.Br] at h
 cases br
 .simp only [Bool.false_eq_true,if_false] at h
  repeat' ((conv=>whnf);(first|refine A6 ?_|refine A7 ?_ ?_|refine A8 ?_ ?_|refine UD ?_ ?_|refine HH ?_|refine Ll ?_ ?_|refine Kq ?_|refine IE ?_ ?_|exact Fh|refine JQ ?_|refine K6 ?_|refine Ac ?_|refine ho.go ‹_› ‹_› ?_ ?_|refine O1.qf P0 ‹_› ‹_› ?_ ?_)<;>intros)
 .simp only [if_true] at h
  repeat' ((conv=>whnf);(first|refine A6 ?_|refine A7 ?_ ?_|refine A8 ?_ ?_|refine UD ?_ ?_|refine HH ?_|refine Ll ?_ ?_|refine Kq ?_|refine IE ?_ ?_|exact Fh|refine JQ ?_|refine K6 ?_|refine Ac ?_|refine ho.go ‹_› ‹_› ?_ ?_|refine O1.qf P0 ‹_› ‹_› ?_ ?_)<;>intros)
end
section
variable {st0 st:St} {b d:Nat} {s:Ad} {rows:List (AJ×List Nd)} {K:AA->St->Prop}
attribute [local irreducible] Go.Aw.Ah
theorem jD {U:Rd Nd} (ho:AV enc 342 (λb=>[pv b d]) U):AV enc 212 (λb=>[pv b d]) (Y0 U):=by
 refine ⟨λ{st0 b s st rows K} hc h=>?_⟩
 simp only [Y0,Rd.wp_seq,Rd.wp_ret] at h
 refine pB Tryz.func212 ?_
 repeat' ((conv=>whnf);(first|refine A6 ?_|refine A7 ?_ ?_|refine A8 ?_ ?_|exact Fh|refine JQ ?_|refine Ac ?_|refine pW.go (kq ho) ‹_› ‹_› ?_ ?_)<;>intros)
theorem Xr {A:Ad->Rs} {hle:∀s v s',A s=.inr (v,s')->mu s'<=mu s} (hB:E1 A) (hc:Cx st0 b s st rows) (h:Rd.wp (Jf A hle) s (λv s'=>∀st',Cx st0 b s' st' rows->K (.ret (enc v)) st') (λe s'=>∀st',Cy st0 b s' st' rows->K (.B0 (fault e.1)) st')):EJ st b K (A s):=by
 cases U:A s with
 |inl p=>
  obtain ⟨e,s'⟩:=p
  unfold Rd.wp at h
  rw [VS hB U] at h
  exact λst' hu=>h st' (hc.uM hu)
 |inr p=>
  obtain ⟨n,s'⟩:=p
  unfold Rd.wp at h
  rw [My U] at h
  exact λst' hu=>h st' (hc.NK hu (hle _ _ _ U))
theorem nL {A:Rd Nd} (hd:d<=1000000) (h0:d=0->A=.fail Hu) (hc:Cx st0 b s st rows)
 (h:Rd.wp A s (λv s'=>∀st',Cx st0 b s' st' rows->K (.ret (enc v)) st') (λe s'=>∀st',Cy st0 b s' st' rows->K (.B0 (fault e.1)) st'))
 (hg:d≠0->∀K:AA->St->Prop,Rd.wp A s (λv s'=>∀st',Cx st0 b s' st' rows->K (.ret (enc v)) st') (λe s'=>∀st',Cy st0 b s' st' rows->K (.B0 (fault e.1)) st')->PC g [pv b d] st K):
 PC 294 [pv b (d+1),.func g [] []] st K:=by
 refine pB Tryz.func294 ?_
 by_cases hz:d=0
 .have U:((d+1:Nat):Int)<2:=AC
  rw [h0 hz,Rd.D5] at h
  repeat' ((conv=>whnf);(first|refine A6 ?_|refine A7 ?_ ?_|refine A8 ?_ ?_|refine Cd ?_|exact BP (Cx.y ‹_›) ‹_›)<;>intros)
 .have U:¬((d+1:Nat):Int)<2:=AC
  repeat' ((conv=>whnf);(first|refine Sq hd ?_|refine A6 ?_|refine A7 ?_ ?_|refine A8 ?_ ?_|refine hg hz _ (Rd.wp_mono ‹_› ?_ ?_)|refine Cd ?_|exact Fh|refine Ac ?_)<;>intros)
theorem OS {A:Rd Nd} (hd:d<=1000000) (h0:d=0->A=.fail Hu) (hc:Cx st0 b s st rows)
 (h:Rd.wp A s (λv s'=>∀st',Cx st0 b s' st' rows->K (.ret (enc v)) st') (λe s'=>∀st',Cy st0 b s' st' rows->K (.B0 (fault e.1)) st'))
 (hg:d≠0->∀K:AA->St->Prop,Rd.wp A s (λv s'=>∀st',Cx st0 b s' st' rows->K (.ret (enc v)) st') (λe s'=>∀st',Cy st0 b s' st' rows->K (.B0 (fault e.1)) st')->PC g [pv b d,.ptr c 0] st K):
 PC 294 [pv b (d+1),.func g [] [.ptr c 0]] st K:=by
 refine pB Tryz.func294 ?_
 by_cases hz:d=0
 .have U:((d+1:Nat):Int)<2:=AC
  rw [h0 hz,Rd.D5] at h
  repeat' ((conv=>whnf);(first|refine A6 ?_|refine A7 ?_ ?_|refine A8 ?_ ?_|refine Cd ?_|exact BP (Cx.y ‹_›) ‹_›)<;>intros)
 .have U:¬((d+1:Nat):Int)<2:=AC
  repeat' ((conv=>whnf);(first|refine Sq hd ?_|refine A6 ?_|refine A7 ?_ ?_|refine A8 ?_ ?_|refine hg hz _ (Rd.wp_mono ‹_› ?_ ?_)|refine Cd ?_|exact Fh|refine Ac ?_)<;>intros)
theorem DU {A:Rd Nd} (hd:d<=1000000) (U:d=0->A=.fail Hu) (hg:d≠0->AV enc g (λb=>[pv b d]) A):AV enc 294 (λb=>[pv b (d+1),.func g [] []]) A:=by
 refine ⟨λ{st0 b s st rows K} hc h=>?_⟩
 exact nL hd U hc h λhz K h=>(hg hz).ap hc h
end
section
variable {st0 st:St} {b d:Nat} {s:Ad} {rows:List (AJ×List Nd)} {K:AA->St->Prop}
attribute [local irreducible] Go.Aw.Ah
theorem Ys (hd:d+1<=100):Dd 231 ((d+1:Nat):Int) (Gc (C5 (Dz (d+1 - 1)))):=by
 have:=qe (deep:=((d+1:Nat):Int))
 have e:Dt ((d+1:Nat):Int) - 1=d+1 - 1:=by unfold Dt;split<;>omega
 rw [e] at this;exact this
theorem ak (hd:d+1<=100):AV enc 289 (λb=>[pv b (d+1)]) (C7 (d+1)):=by
 refine ⟨λ{st0 b s st rows K} hc h=>?_⟩
 have U:E1 (Gc (C5 (Dz (d+1 - 1)))):=RM (GP (E7 _))
 have hi:∀{K:AA->St->Prop},Rd.wp (C7 (d+1)) s (λv s'=>∀st',Cx st0 b s' st' rows->K (.ret (enc v)) st') (λe s'=>∀st',Cy st0 b s' st' rows->K (.B0 (fault e.1)) st')->
  PC 84 [.ptr b 0,.func 231 [] [],.int .i64 ((d+1:Nat):Int)] st K:=λh=>
  Qg (d:=d+1) rfl (Ys hd) (λe=>by omega) U hc.mu hc.has (Xr U hc h)
 refine pB Tryz.func289 ?_
 repeat' ((conv=>whnf);(first|refine A6 ?_|refine A7 ?_ ?_|refine A8 ?_ ?_|refine hi (Rd.wp_mono ‹_› ?_ ?_)|exact Fh|refine Ac ?_)<;>intros)
theorem XD {full:Rd Nd} (U:AV enc 289 (λb=>[pv b d]) full):AV enc 359 (λb=>[pv b d,enc n]) (Km full n):=by
 refine ⟨λ{st0 b s st rows K} hc h=>?_⟩
 simp only [Km,Rd.Al,Rd.AD,Rd.wp_seq,Rd.wp_ret] at h
 refine pB Tryz.func359 ?_
 repeat' ((conv=>whnf);(first|exact CU|refine A6 ?_|(refine CV ?_ ?_ ?_;rotate_left)|refine A7 ?_ ?_|refine A8 ?_ ?_|refine HH ?_|refine Ll ?_ ?_|refine Kq ?_|refine IE ?_ ?_|exact Fh|refine JQ ?_|refine Ac ?_|refine FG.go (by first|exact AV.q) ?_ ?_|refine Af [(0,true),(1,true),(2,true),(4,true),(3,false),(5,false),(6,true),(7,false),(8,false)] [2] GE ?_|with_reducible refine WF ?_)<;>intros)
theorem ru {U full:Rd Nd} (ho:AV enc 342 (λb=>[pv b d]) U) (hf:AV enc 289 (λb=>[pv b d]) full):AV enc 292 (λb=>[pv b d]) (cN U full):=by
 refine ⟨λ{st0 b s st rows K} hc h=>?_⟩
 simp only [cN,Rd.wp_seq] at h
 refine pB Tryz.func292 ?_
 repeat' ((conv=>whnf);(first|exact CU|refine A6 ?_|(refine CV ?_ ?_ ?_;rotate_left)|refine A7 ?_ ?_|refine A8 ?_ ?_|exact Fh|refine Ac ?_|refine FG.go (by first|exact AV.q|exact (jD ho).a|exact (XD hf).a) ?_ ?_|refine Af [(0,true),(1,true),(2,false),(3,false),(4,false)] [1] GE ?_|with_reducible refine WF ?_)<;>intros)
theorem VA {L:EX} {lt U:Nd} (he:AV enc 294 (λb=>[pv b d,.func 292 [] []]) L.exp):AV enc 389 (λb=>[pv b d,enc lt,enc U]) (J5 L lt U):=by
 refine ⟨λ{st0 b s st rows K} hc h=>?_⟩
 simp only [J5,Rd.wp_seq,Rd.wp_ret] at h
 refine pB Tryz.func389 ?_
 repeat' ((conv=>whnf);(first|exact CU|refine A6 ?_|(refine CV ?_ ?_ ?_;rotate_left)|refine A7 ?_ ?_|refine A8 ?_ ?_|refine IE ?_ ?_|exact Fh|refine JQ ?_|refine Ac ?_|refine FG.go (by first|exact AV.q) ?_ ?_|refine Af [(0,true),(1,true),(2,true),(3,true),(4,false),(5,true),(6,false),(7,false)] [3] GE ?_|with_reducible refine WF ?_)<;>intros)
theorem aY {L:EX} (he:AV enc 294 (λb=>[pv b d,.func 292 [] []]) L.exp):pX 414 (λb v=>[pv b d,v,.str w]) (λl=>Le L l w):=by
 refine ⟨λ{st0 b s st rows K own l} hl hc h=>?_⟩
 simp only [Le,Sv,Rd.Al,Rd.AD,Rd.wp_seq,Rd.wp_ret] at h
 refine pB Tryz.func414 ?_
 have U:=hc.mu
 rcases hc.has with hs|⟨t,u,o1,o2,e0,hs⟩
 .skip
  repeat' ((conv=>whnf);(first|refine A6 ?_|refine A7 ?_ ?_|refine A8 ?_ ?_|refine UD ?_ ?_|refine Au hs ?_|refine HH ?_|refine Ll ?_ ?_|refine IE ?_ ?_|exact Fh|refine K6 ?_|refine Ac ?_|refine Ua ?_|refine bF ‹_› ‹_› (HD ‹_›) ?_|refine F5 ‹_› U ?_|refine FG.go (by first|exact AV.q) ?_ ?_)<;>intros)
 .skip
  repeat' ((conv=>whnf);(first|refine A6 ?_|refine A7 ?_ ?_|refine A8 ?_ ?_|refine UD ?_ ?_|refine Au hs ?_|refine HH ?_|refine Ll ?_ ?_|refine IE ?_ ?_|exact Fh|refine K6 ?_|refine Ac ?_|refine Ua ?_|refine bF ‹_› ‹_› (HD ‹_›) ?_|refine F5 ‹_› U ?_|refine FG.go (by first|exact AV.q) ?_ ?_)<;>intros)
theorem KB {p:FuncId} {A:Rd Nd} {may:Nd->Bool} (hg:AV enc g (λb=>[pv b d]) A) (hp:∀{s s' n} {st:St} {K:AA->St->Prop},A.run s=.inr (n,s')->mu s<=100000000->K (.ret (.bool (may n))) st->PC p [enc n] st K):
 AV enc 280 (λb=>[pv b d,.func g [] [],.func p [] []]) (CX A may):=by
 refine ⟨λ{st0 b s st rows K} hc h=>?_⟩
 simp only [CX,Rd.Al,Rd.AD,Rd.wp_seq,Rd.wp_ret,Rd.GX] at h
 refine pB Tryz.func280 ?_
 have U:=hc.mu
 rcases hc.has with hs|⟨t,u,o1,o2,e0,hs⟩
 .skip
  repeat' ((conv=>whnf);(first|refine A6 ?_|refine A7 ?_ ?_|refine A8 ?_ ?_|refine Au hs ?_|refine Cd ?_|exact Fh|refine Ac ?_|refine F5 ‹_› U ?_|refine FG.go (by first|exact AV.q) ?_ ?_|refine hp ‹_› U ?_)<;>intros)
 .skip
  repeat' ((conv=>whnf);(first|refine A6 ?_|refine A7 ?_ ?_|refine A8 ?_ ?_|refine Au hs ?_|refine Cd ?_|exact Fh|refine Ac ?_|refine F5 ‹_› U ?_|refine FG.go (by first|exact AV.q) ?_ ?_|refine hp ‹_› U ?_)<;>intros)
end
structure Lk (D:Nat) (L:EX):Prop where
 atom:AV enc 294 (λb=>[pv b D,.func 288 [] []]) L.atom
 exp:AV enc 294 (λb=>[pv b D,.func 292 [] []]) L.exp
 ops:AV enc 294 (λb=>[pv b D,.func 212 [] []]) L.ops
 decls:AV enc 294 (λb=>[pv b D,.func 295 [] []]) L.decls
 stmts:AV enc 294 (λb=>[pv b D,.func 416 [] []]) L.stmts
 alts:AV enc 294 (λb=>[pv b D,.func 391 [] []]) L.alts
 DT:∀{o:Nd} {c:Nat} {st0:St} {b:Nat} {s:Ad} {st:St} {rows:List (AJ×List Nd)} {K:AA->St->Prop},st.box c=some (AP o)->Cx st0 b s st rows->
  Rd.wp (L.DT o) s (λv s'=>∀st',Cx st0 b s' st' rows->K (.ret (enc v)) st') (λe s'=>∀st',Cy st0 b s' st' rows->K (.B0 (fault e.1)) st')->PC 294 [pv b D,.func 418 [] [.ptr c 0]] st K
 list:∀{o:Nd} {c:Nat} {st0:St} {b:Nat} {s:Ad} {st:St} {rows:List (AJ×List Nd)} {K:AA->St->Prop},st.box c=some (AP o)->Cx st0 b s st rows->
  Rd.wp (L.list o) s (λv s'=>∀st',Cx st0 b s' st' rows->K (.ret (enc v)) st') (λe s'=>∀st',Cy st0 b s' st' rows->K (.B0 (fault e.1)) st')->PC 294 [pv b D,.func 420 [] [.ptr c 0]] st K
theorem tC (h:n.kids.length=0):GC n=true:=by
 unfold GC;rw [List.length_eq_zero_iff.1 h];rfl
theorem aA {x:Nd} (h:n.kids[((n.kids.length:Nat) - 1:Int).toNat]? =some x):n.kids.getLast? =some x:=by
 rw [List.getLast?_eq_getElem?,<-h];congr 1;omega
theorem tD {x:Nd} (h:n.kids[((n.kids.length:Nat) - 1:Int).toNat]? =some x) (k:x.kind=32\/x.kind=33):GC n=true:=by
 unfold GC;rw [aA h];simpa using k
theorem tE {x:Nd} (h:n.kids[((n.kids.length:Nat) - 1:Int).toNat]? =some x) (k:¬x.kind=32) (U:¬x.kind=33):¬GC n=true:=by
 unfold GC;rw [aA h];simp [k,U]
theorem AO {m:Rd α} {k:α->Rd β} {v:β} (h:(Rd.seq m k).run s=.inr (v,s')):∃a s1,m.run s=.inr (a,s1)/\(k a).run s1=.inr (v,s'):=by
 unfold Rd.seq at h
 dsimp only at h
 split at h
 .cases h
 .exact ⟨_,_,‹_›,h⟩
theorem jE {L:EX} {a b:Nd} {n:Nat} (h:(Le L [a,b] w).run s=.inr (l,s')) (U:n<=100000000):l.length<=90000000:=by
 unfold Le at h
 obtain ⟨_,_,_,h⟩:=AO h
 obtain ⟨_,_,_,h⟩:=AO h
 obtain ⟨_,_,_,h⟩:=AO h
 cases h
 exact Nat.le_of_ble_eq_true rfl
section
variable {st0 st:St} {b d:Nat} {s:Ad} {rows:List (AJ×List Nd)} {K:AA->St->Prop} {L:EX} {atom:Rd Nd}
attribute [local irreducible] Go.Aw.Ah
theorem ct (hL:Lk d L):AV enc 390 (λb=>[pv b d]) (II L):=by
 refine ⟨λ{st0 b s st rows K} hc h=>?_⟩
 simp only [II,Rd.wp_seq,Rd.wp_ret] at h
 have U:=hc.mu
 refine pB Tryz.func390 ?_
 repeat' ((conv=>whnf);(first|exact CU|refine A6 ?_|(refine CV ?_ ?_ ?_;rotate_left)|refine A7 ?_ ?_|refine A8 ?_ ?_|refine Kq ?_|refine IE ?_ ?_|exact Fh|refine JQ ?_|refine Ac ?_|refine FG.go (by first|exact AV.q|exact (hL.exp).a) ?_ ?_|refine pX.go (l:=[_,_]) (aY hL.exp) (Nat.le_of_ble_eq_true rfl) (Cx.push ‹_› _) ‹_› ?_ ?_|refine pX.go (aY hL.exp) (jE ‹_› U) ‹_› ‹_› ?_ ?_|refine Af [(0,true),(1,true),(3,true),(2,false),(4,false),(5,true),(6,true)] [] GE ?_|refine Af [(0,true),(1,true),(2,true),(3,false),(4,false),(5,false),(6,false)] [1] GE ?_|with_reducible refine WF ?_)<;>intros)
theorem k8 (hL:Lk d L):AV enc 392 (λb=>[pv b d]) (LK L):=by
 refine ⟨λ{st0 b s st rows K} hc h=>?_⟩
 simp only [LK,Rd.wp_seq,Rd.wp_ret,Rd.AD,Rd.D5] at h
 refine pB Tryz.func392 ?_
 repeat' ((conv=>whnf);first|(refine A6 ?_;intros)|(refine A7 ?_ ?_<;>intro e h)|(refine A8 ?_ ?_<;>intro _)|(refine Kq ?_;intro s1 U hz hm hc h)|(refine IE ?_ ?_<;>(first|intro n s1 U hr hm hc h|intro e s1 U hc h))|refine Cd ?_|exact Fh|refine JQ ?_|refine BV (λ_=>?_)|refine Ac (λe1=>?_)|refine AV.go hL.stmts hc h (λn s1 U hr hm hc h=>?_) (λe s1 U hc h=>?_))
 all_goals conv=>whnf
 all_goals first
  |(rw [if_pos (tC AC)] at h;exact BP hc.y h)
  |(rw [if_pos (tD ‹_› AC)] at h;exact BP hc.y h)
  |(rw [if_neg (tE ‹_› AC AC)] at h;exact C6 hc h rfl)
end
section
variable {st0 st:St} {b d:Nat} {s:Ad} {rows:List (AJ×List Nd)} {K:AA->St->Prop} {L:EX} {atom:Rd Nd}
attribute [local irreducible] Go.Aw.Ah
theorem ic (U:AV enc 288 (λb=>[pv b d]) atom):AV enc 280 (λb=>[pv b d,.func 288 [] [],.func 403 [] []]) (CX atom JD):=
 KB U λ_ _ k=>TB k
theorem To {A:Rd Nd} {p:Nd->Bool} (h:Rd.AR A):Rd.AR (CX A p):=Rd.AR.look λs v s' e=>Rd.AR.at (h _) e
theorem cZ (hL:Lk d L) (ha:AV enc 288 (λb=>[pv b d]) atom) (hF:Rd.AR atom):AV enc 388 (λb=>[pv b d]) (I7 L atom):=by
 refine ⟨λ{st0 b s st rows K} hc h=>?_⟩
 simp only [I7,Rd.wp_seq,Rd.wp_ret] at h
 refine pB Tryz.func388 ?_
 have hmu:=hc.mu
 repeat' ((conv=>whnf);(first|refine A6 ?_|refine A7 ?_ ?_|refine A8 ?_ ?_|refine HH ?_|refine Kq ?_|refine IE ?_ ?_|exact Fh|refine JQ ?_|refine K6 ?_|refine BV ?_|refine Ac ?_)<;>intros)
 refine Cm (λl own=>[(3,.slice 6 (l.map AP) own)]) (λ_ _=>[]) [1,2] [0,1] (λl own=>(own,l)::rows) (λl=>l.length) .full (Cx.push ‹_› _) ‹_› (by show 1+_<=_;omega) Yl ?_
 intro l s1 st1 U hc h hl hm1
 simp only [TC,KE,Rd.Al,Rd.AD,Rd.wp_seq,Rd.wp_ret,Rd.Br] at h
 repeat' ((conv=>whnf);(first|refine A6 ?_|refine A7 ?_ ?_|refine A8 ?_ ?_|refine HH ?_|refine Kq ?_|refine IE ?_ ?_|exact Fh|refine JQ ?_|refine K6 ?_|refine BV ?_|refine Ac ?_|refine AV.qf (ic ha) (To hF) ‹_› ‹_› ?_ ?_|refine FG.go (by first|exact AV.q|exact (hL.exp).a) ?_ ?_)<;>intros)
theorem YY (hL:Lk d L) (ha:AV enc 288 (λb=>[pv b d]) atom) (U:Rd.AR atom):AV enc 342 (λb=>[pv b d]) (Ik L atom):=by
 refine ⟨λ{st0 b s st rows K} hc h=>?_⟩
 simp only [Ik,Ln,c9,RQ,Rd.Al,Rd.AD,Rd.wp_seq,Rd.wp_ret] at h
 refine pB Tryz.func342 ?_
 have hmu:=hc.mu
 repeat' ((conv=>whnf);(first|exact CU|refine A6 ?_|(refine CV ?_ ?_ ?_;rotate_left)|refine A7 ?_ ?_|refine A8 ?_ ?_|refine HH ?_|refine Kq ?_|refine IE ?_ ?_|exact Fh|refine JQ ?_|refine K6 ?_|refine Ac ?_|refine FG.go (by first|exact AV.q|exact (cZ hL ha U).a|exact (ct hL).a|exact (k8 hL).a|exact (hL.decls).a|exact (VA hL.exp).a|exact (hL.exp).a|exact (hL.alts).a) ?_ ?_|refine Cx.Hj (l:=[_,_,_]) (Cx.push ‹_› _) (Nat.le_of_ble_eq_true rfl) ?_|refine Af [(0,true),(1,true),(2,true),(4,true),(3,false),(5,false),(6,false),(7,false)] [1] GE ?_|refine Af [(0,true),(1,true),(3,true),(5,true),(6,true),(2,false),(4,false),(7,false),(8,true),(9,true)] [] GE ?_|with_reducible refine WF ?_)<;>intros)
 all_goals refine Cm (λl own=>[(5,.slice 6 (l.map AP) own)]) (λ_ _=>[]) [1,2] [0,1] (λl own=>(own,l)::rows) (λl=>l.length) .full (Cx.push ‹_› _) ‹_› (by show 1+_<=_;omega) Yl ?_
 all_goals intro l s1 st1 own1 hc h hl hm1
 all_goals simp only [X0,Rd.Al,Rd.AD,Rd.wp_seq,Rd.wp_ret,Rd.Br] at h
 all_goals (repeat' ((conv=>whnf);(first|exact CU|refine A6 ?_|(refine CV ?_ ?_ ?_;rotate_left)|refine A7 ?_ ?_|refine A8 ?_ ?_|refine HH ?_|refine Kq ?_|refine IE ?_ ?_|exact Fh|refine JQ ?_|refine K6 ?_|refine Ac ?_|refine AV.qf ha U ‹_› ‹_› ?_ ?_|with_reducible refine WF ?_)<;>intros))
end
end Go.Proofs.Z
namespace Go.Aw
open Go
def V.jr (id:Nat):V->V
 | .BO i o=>bif Nat.beq i id then .BT else .BO i o
 |v=>v
noncomputable def IP (id:Nat) (l:List (Nat×V)):List (Nat×V):=List.rec (motive:=λ_=>List (Nat×V)) [] (λp _ U=>(p.1,p.2.jr id)::U) l
noncomputable def Ht (id:Nat) (l:List (Nat×List V)):List (Nat×List V):=List.rec (motive:=λ_=>List (Nat×List V)) [] (λp _ U=>bif Nat.beq p.1 id then U else p::U) l
theorem Ti (id:Nat) (p:Nat×V) (r:List (Nat×V)):IP id (p::r)=(p.1,p.2.jr id)::IP id r:=rfl
theorem Th (id:Nat) (p:Nat×List V) (r:List (Nat×List V)):Ht id (p::r)=bif Nat.beq p.1 id then Ht id r else p::Ht id r:=rfl
theorem K8 {id t:Nat}:∀{l:List (Nat×V)} {v:V},assoc (IP id l) t=some v->∃u,assoc l t=some u/\v=u.jr id
 |[],v,h=>by cases h
 |p::r,v,h=>by
  rw [Ti,Bj] at h
  rw [Bj]
  cases hb:Nat.beq p.1 t with
  |true=>simp_all
  |false=>rw [hb] at h;simp only [cond_false] at h |-;exact K8 h
theorem HI {id i:Nat}:∀{l:List (Nat×List V)} {cs:List V},assoc (Ht id l) i=some cs->i≠id/\assoc l i=some cs
 |[],cs,h=>by cases h
 |p::r,cs,h=>by
  rw [Th] at h
  cases hb:Nat.beq p.1 id with
  |true=>
   rw [hb] at h
   simp only [cond_true] at h
   have hp:=Nat.eq_of_beq_eq_true hb
   obtain ⟨U,h2⟩:=HI h
   refine ⟨U,?_⟩
   rw [Bj]
   have:Nat.beq p.1 i=false:=by
    rw [hp]
    cases e:Nat.beq id i with
    |true=>simp_all
    |false=>rfl
   simp_all
  |false=>
   rw [hb] at h
   simp only [cond_false] at h
   rw [Bj] at h |-
   cases e:Nat.beq p.1 i with
   |true=>
    grind
   |false=>rw [e] at h;exact HI h
theorem bm {X:List Deferred->Mem->St->World->Act->World->Prop} {st:St} (t id:Nat) (ht:env.get t=.BO id 0) (hb:assoc env.boxes id=some cs) (hn:Nr cs=true)
 (h:∀b,st.fresh b->∀D I0 st0 w0 I β a w,Rel D I0 st0 w0 I β {env with tmps:=(t,.ptr b 0)::IP id env.tmps,boxes:=Ht id env.boxes} (st.Aa b cs) a w->X D I0 st0 w0 a w):
 ∀D I0 st0 w0 I β a w,Rel D I0 st0 w0 I β env st a w->X D I0 st0 w0 a w:=λD I0 st0 w0 I β a w U=>by
 obtain ⟨b,hβ,hl⟩:=U.f.box id cs hb
 obtain ⟨s1,s2,s3,s4,s5,s6⟩:=U.f.sep id b hβ
 have h1:=U.f.get t
 rw [ht] at h1
 obtain ⟨b',hβ',h1⟩:∃b,β id=some b/\_:=h1
 obtain rfl:b'=b:=Option.some.inj (hβ'.symm.trans hβ)
 refine h b' ⟨s5,s6⟩ D I0 st0 w0 I (λi=>if i=id then none else β i) a w ⟨⟨U.fr.os,U.fr.tape,U.fr.output,U.fr.size,U.fr.Ld,U.fr.le,U.fr.new,U.fr.K2,λx hx=>?_⟩,⟨U.s.cell,U.s.shape,?_,?_,?_,U.s.SJ⟩,⟨U.f.size,?_,?_,?_,?_,?_,U.f.defers⟩⟩
 .by_cases e:x=b'
  .omega
  .refine U.fr.K0 x (hx.imp (λhx=>?_) (λhx=>hx))
   simp only [St.Aa] at hx
   simp_all
 .intro x us hx
  by_cases e:x=b'
  .subst e
   simp only [St.Aa,if_true,Option.some.injEq] at hx
   subst hx
   exact hl.cells hn
  .simp only [St.Aa] at hx
   rw [if_neg e] at hx
   exact U.s.box x us hx
 .intro x hx
  by_cases e:x=b'
  .subst e;exact ⟨s3,s6,s4⟩
  .simp only [St.Aa] at hx
   rw [if_neg e] at hx
   exact U.s.HJ x hx
 .exact U.s.hw
 .intro t' v e
  rw [Bj] at e
  cases hbq:Nat.beq t t' with
  |true=>
   rw [hbq] at e
   have:=Nat.eq_of_beq_eq_true hbq
   subst this
   simp only [cond_true,Option.some.injEq] at e
   subst e
   refine AZ.of ?_
   simp only [AK]
   exact h1
  |false=>
   rw [hbq] at e
   simp only [cond_false] at e
   obtain ⟨u,hu,rfl⟩:=K8 e
   have hk:=U.f.tmps t' u hu
   cases u with
   |BO i o=>
    show AZ I _ (bif Nat.beq i id then .BT else .BO i o) _
    cases hi:Nat.beq i id with
    |true=>exact AZ.of (I:=I) (β:=_) (v:=.BT) trivial
    |false=>
     obtain ⟨b2,g1,g2⟩:∃b,β i=some b/\_:=hk
     refine ⟨b2,?_,g2⟩
     have:i≠id:=λx=>by simp_all
     simp_all
   |_=>exact hk
 .intro i us e
  obtain ⟨h2,h3⟩:=HI e
  obtain ⟨b2,g1,g2⟩:=U.f.box i us h3
  simp_all
 .intro i x e
  split at e
  .cases e
  .exact U.f.Bm i x e
 .intro i j x e1 e2
  split at e1
  .cases e1
  .split at e2
   .cases e2
   .exact U.f.inj i j x e1 e2
 .intro i x e
  split at e
  .cases e
  .rename_i hi
   obtain ⟨g1,g2,g3,g4,g5,g6⟩:=U.f.sep i x e
   have hx:x≠b':=λhx=>by subst hx;exact hi (U.f.inj i id x e hβ)
   exact ⟨g1,g2,g3,g4,by simp only [St.Aa];simp_all,g6⟩
theorem Lj {P:Program} {c:Code} {Q:AH->Env->St->Prop} {st:St} (t id:Nat) (U:env.get t=.BO id 0) (hb:assoc env.boxes id=some cs) (hn:Nr cs=true)
 (h:∀b,st.fresh b->AW P c Q {env with tmps:=(t,.ptr b 0)::IP id env.tmps,boxes:=Ht id env.boxes} (st.Aa b cs)):AW P c Q env st:=
 bm (X:=λD I0 st0 w0 a w=>c.wp P (B6 D I0 st0 w0 Q) a w) t id U hb hn h
def fe (Q:Env->St->Prop) (env:Env) (st:St):Prop:=∀D I0 st0 w0 I β a w,Rel D I0 st0 w0 I β env st a w->∃I β env' st',Rel D I0 st0 w0 I β env' st' a w/\Q env' st'
theorem fe.here {Q:Env->St->Prop} {st:St} (h:Q env st):fe Q env st:=λD I0 st0 w0 I β a w U=>⟨I,β,env,st,U,h⟩
theorem fe.u6 {Q:Env->St->Prop} {st:St} (t id:Nat) (U:env.get t=.BO id 0) (hb:assoc env.boxes id=some cs) (hn:Nr cs=true)
 (h:∀b,st.fresh b->fe Q {env with tmps:=(t,.ptr b 0)::IP id env.tmps,boxes:=Ht id env.boxes} (st.Aa b cs)):fe Q env st:=
 bm (X:=λD I0 st0 w0 a w=>∃I β env' st',Rel D I0 st0 w0 I β env' st' a w/\Q env' st') t id U hb hn h
theorem fe.le {Q:Env->St->Prop} {env env':Env} {st st':St} (he:env'.Ff env) (hs:St.le st' st) (h:fe Q env' st'):fe Q env st:=λD I0 st0 w0 I β a w U=>h _ _ _ _ _ _ _ _ ((U.Hn hs).JA (Env.JC he))
end Go.Aw
namespace Go.Proofs.Z
open Go Go.Aw
section
variable {st0 st:St} {b d:Nat} {s:Ad} {rows:List (AJ×List Nd)} {K:AA->St->Prop} {L:EX} {atom:Rd Nd}
attribute [local irreducible] Go.Aw.Ah
theorem rV (hc:Cx st0 b s st rows)
 (h:if Iw (Ab s).1=true then (if AU (Ab s).2.1 15 [41]=true then Rd.wp Ay s (λp s'=>Rd.wp Ay s' (λc s'=>Q (Aq 3 [o,p,c]) s') E) E else P) else P)
 (k1:∀n s' st',mu s'<=mu s->Cx st0 b s' st' rows->Q n s'->K (.ret (.Bz [enc n,.bool true])) st') (k2:∀st',Cx st0 b s st' rows->P->K (.ret (.Bz [enc Hz,.bool false])) st'):
 PC 417 [pv b d,enc o] st K:=by
 refine pB Tryz.func417 ?_
 have hmu:=hc.mu
 have hc1:=hc.look
 cases hy:Iw (Ab s).1 with
 |false=>
  rw [if_neg (by rw [hy];decide)] at h
  repeat' ((conv=>whnf);first|exact CU|(refine A6 ?_;intros)|(refine CV ?_ ?_ ?_;rotate_left)|(refine A7 ?_ ?_<;>intro e h)|(refine A8 ?_ ?_<;>intro _)|refine QC hc (λU hc=>?_)|refine Ix ?_|with_reducible refine WF ?_)
  all_goals exact BJ rfl (k2 U hc h)
 |true=>
  rw [if_pos hy] at h
  have hkd:=NG hy
  cases hi:AU (Ab s).2.1 15 [41] with
  |true=>
   rw [if_pos hi] at h
   repeat' ((conv=>whnf);first|exact CU|(refine A6 ?_;intros)|(refine CV ?_ ?_ ?_;rotate_left)|(refine A7 ?_ ?_<;>intro e h)|(refine A8 ?_ ?_<;>intro _)|refine Au (St.Ai ..) ?_|refine Gn hc.has hc.hb ?_|refine Ix ?_|refine MT hc1 h hkd (λs1 U hz hm hc h=>?_)|refine T3 hc (hz ▸ hi) (λU hc=>?_)|refine MS hc h (hz ▸ hi) Do (λs2 st2 hz2 hm2 hc h=>?_)|refine TU ?_|refine Af [(0,true),(1,true),(2,true),(3,true),(4,false),(5,true),(6,false),(7,false),(8,true)] [2] GE ?_|with_reducible refine WF ?_)
   all_goals exact BJ rfl (k1 _ s2 st2 AC hc h)
  |false=>
   rw [if_neg (by rw [hi];decide)] at h
   repeat' ((conv=>whnf);first|exact CU|(refine A6 ?_;intros)|(refine CV ?_ ?_ ?_;rotate_left)|(refine A7 ?_ ?_<;>intro e h)|(refine A8 ?_ ?_<;>intro _)|refine Au (St.Ai ..) ?_|refine Gn hc.has hc.hb ?_|refine Ix ?_|refine sM hc1 hkd (λs1 U hz hm hc=>?_)|refine Y5 hc (hz ▸ hi) (λU hc=>?_)|refine F5 hc hmu (λst2 hc=>?_)|with_reducible refine WF ?_)
   all_goals exact BJ rfl (k2 st2 hc h)
theorem jW (hL:Lk d L):AV enc 394 (λb=>[pv b d]) (LH L):=by
 refine ⟨λ{st0 b s st rows K} hc h=>?_⟩
 simp only [LH,Qd,Nw,LG,Rd.Al,Rd.AD,Rd.wp_seq,Rd.wp_ret] at h
 refine A5 Ae [] Tryz.func394 rfl Do rfl ?_
 have hmu:=hc.mu
 refine Ak (An Ae ?_)
 repeat' ((conv=>whnf);(first|exact CU|refine A6 ?_|(refine CV ?_ ?_ ?_;rotate_left)|refine A7 ?_ ?_|refine A8 ?_ ?_|with_reducible refine WF ?_)<;>intros)
 refine Ak (An Ae ?_)
 repeat' ((conv=>whnf);(first|exact CU|refine A6 ?_|(refine CV ?_ ?_ ?_;rotate_left)|refine A7 ?_ ?_|refine A8 ?_ ?_|refine GJ.go ‹_› ‹_› ?_ ?_|exact BP ‹_› ‹_›|with_reducible refine WF ?_)<;>intros)
 refine Ak (An Ae ?_)
 repeat' ((conv=>whnf);first|exact CU|(refine A6 ?_;intros)|(refine CV ?_ ?_ ?_;rotate_left)|(refine A7 ?_ ?_<;>intro e h)|(refine A8 ?_ ?_<;>intro _)|(refine HH ?_;intro U hc)|(refine Ll ?_ ?_<;>intro U hc e h)|(refine Kq ?_;intro s1 U hz hm hc h)|(refine IE ?_ ?_<;>(first|intro n s1 U hr hm hc h|intro e s1 U hc h))|exact Fh|refine JQ ?_|(refine K6 ?_;intro own1 U hc)|refine Ac (λe1=>?_)|with_reducible refine WF ?_)
 all_goals first
  |(refine Cm (λl own=>[(4,.slice 6 (l.map AP) own)]) (λ_ _=>[]) [1,2] [0,1] (λl own=>(own,l)::rows) (λl=>l.length) .full (hc.push _) h (by show 1+_<=_;omega) Yl ?_
    intro l s1 U own1 hc h hl hm1
    simp only [S9,Rd.Al,Rd.AD,Rd.wp_seq,Rd.wp_ret,Rd.Br] at h
    repeat' ((conv=>whnf);(first|exact CU|refine A6 ?_|(refine CV ?_ ?_ ?_;rotate_left)|refine A7 ?_ ?_|refine A8 ?_ ?_|refine HH ?_|refine Ll ?_ ?_|refine Kq ?_|refine IE ?_ ?_|exact Fh|refine JQ ?_|refine K6 ?_|refine Ac ?_|with_reducible refine WF ?_)<;>intros))
  |skip
 refine Ak (An Ae ?_)
 repeat' ((conv=>whnf);(first|exact CU|refine A6 ?_|(refine CV ?_ ?_ ?_;rotate_left)|refine A7 ?_ ?_|refine A8 ?_ ?_|refine rV (Q:=λn s'=>∀st',Cx st0 b s' st' rows->K (.ret (enc n)) st') ‹_› ‹_› ?_ ?_|refine HH ?_|refine Ll ?_ ?_|refine Kq ?_|refine IE ?_ ?_|exact Fh|refine JQ ?_|refine K6 ?_|refine Ac ?_|with_reducible refine WF ?_)<;>intros)
 refine Ak (An Ae ?_)
 repeat' ((conv=>whnf);first|exact CU|(refine A6 ?_;intros)|(refine CV ?_ ?_ ?_;rotate_left)|(refine A7 ?_ ?_<;>intro e h)|(refine A8 ?_ ?_<;>intro _)|(refine HH ?_;intro U hc)|(refine Ll ?_ ?_<;>intro U hc e h)|(refine Kq ?_;intro s1 U hz hm hc h)|(refine IE ?_ ?_<;>(first|intro n s1 U hr hm hc h|intro e s1 U hc h))|exact Fh|refine JQ ?_|(refine K6 ?_;intro own1 U hc)|refine Ac (λe1=>?_)|refine O1.go hc h (λn s1 U hr hm hc h=>?_) (λe s1 U hc h=>?_)|refine AV.go hL.ops hc h (λn s1 U hr hm hc h=>?_) (λe s1 U hc h=>?_)|refine Af [(0,true),(1,true),(2,true),(4,true),(5,true),(3,false),(6,false),(7,true),(8,false),(9,false)] [1] GE ?_|with_reducible refine WF ?_)
 all_goals refine Lj 3 2 rfl rfl rfl (λc fc=>?_)
 all_goals have hne:=hc.Tw fc
 all_goals refine An Ae ?_
 all_goals (repeat' ((conv=>whnf);first|exact CU|(refine A6 ?_;intros)|(refine CV ?_ ?_ ?_;rotate_left)|(refine A7 ?_ ?_<;>intro e h)|(refine A8 ?_ ?_<;>intro _)|refine hL.DT (St.Ai ..) (hc.T5 fc) (Rd.wp_mono h (λv s1 hr h U hc=>?_) (λe s1 hr h U hc=>?_))|exact C6 (hc.unbox hne) h rfl|exact BP (hc.unbox hne) h|with_reducible refine WF ?_))
end
section
variable {st0 st:St} {b d:Nat} {s:Ad} {rows:List (AJ×List Nd)} {K:AA->St->Prop} {L:EX} {atom:Rd Nd}
attribute [local irreducible] Go.Aw.Ah
theorem dT (hL:Lk d L):AV enc 395 (λb=>[pv b d]) (Jr L):=by
 refine ⟨λ{st0 b s st rows K} hc h=>?_⟩
 simp only [Jr,Rd.Al,Rd.AD,Rd.wp_seq,Rd.wp_ret] at h
 refine A5 Ae [] Tryz.func395 rfl Do rfl ?_
 refine Ak (An Ae ?_)
 repeat' ((conv=>whnf);(first|exact CU|refine A6 ?_|(refine CV ?_ ?_ ?_;rotate_left)|refine A7 ?_ ?_|refine A8 ?_ ?_|with_reducible refine WF ?_)<;>intros)
 refine Ak (An Ae ?_)
 repeat' ((conv=>whnf);(first|exact CU|refine A6 ?_|(refine CV ?_ ?_ ?_;rotate_left)|refine A7 ?_ ?_|refine A8 ?_ ?_|refine GJ.go ‹_› ‹_› ?_ ?_|exact BP ‹_› ‹_›|with_reducible refine WF ?_)<;>intros)
 refine Ak (An Ae ?_)
 repeat' ((conv=>whnf);first|exact CU|(refine A6 ?_;intros)|(refine CV ?_ ?_ ?_;rotate_left)|(refine A7 ?_ ?_<;>intro e h)|(refine A8 ?_ ?_<;>intro _)|(refine HH ?_;intro U hc)|(refine Ll ?_ ?_<;>intro U hc e h)|(refine Kq ?_;intro s1 U hz hm hc h)|(refine IE ?_ ?_<;>(first|intro n s1 U hr hm hc h|intro e s1 U hc h))|exact Fh|refine JQ ?_|refine Ac (λe1=>?_)|refine Af [(0,true),(1,true),(2,true),(3,false),(4,true),(5,false),(6,false)] [1] GE ?_|with_reducible refine WF ?_)
 all_goals refine Lj 3 2 rfl rfl rfl (λc fc=>?_)
 all_goals have hne:=hc.Tw fc
 all_goals refine An Ae ?_
 all_goals (repeat' ((conv=>whnf);first|exact CU|(refine A6 ?_;intros)|(refine CV ?_ ?_ ?_;rotate_left)|(refine A7 ?_ ?_<;>intro e h)|(refine A8 ?_ ?_<;>intro _)|refine hL.list (St.Ai ..) (hc.T5 fc) (Rd.wp_mono h (λv s1 hr h U hc=>?_) (λe s1 hr h U hc=>?_))|exact C6 (hc.unbox hne) h rfl|exact BP (hc.unbox hne) h|with_reducible refine WF ?_))
theorem ml (hL:Lk d L):AV enc 345 (λb=>[pv b d]) (Py L):=by
 refine ⟨λ{st0 b s st rows K} hc h=>?_⟩
 simp only [Py,Rd.Al,Rd.AD,Rd.wp_seq,Rd.wp_ret] at h
 refine pB Tryz.func345 ?_
 repeat' ((conv=>whnf);(first|exact CU|refine A6 ?_|(refine CV ?_ ?_ ?_;rotate_left)|refine A7 ?_ ?_|refine A8 ?_ ?_|refine HH ?_|refine Ll ?_ ?_|refine Kq ?_|refine IE ?_ ?_|refine fv ?_|exact Fh|refine JQ ?_|refine Ac ?_|refine FG.go (by first|exact AV.q|exact (jW hL).a|exact (dT hL).a|exact (hL.atom).a) ?_ ?_|refine Af [(0,true),(1,true),(3,true),(2,false),(4,false),(5,true),(6,false),(7,false)] [1] GE ?_|refine Af [(0,true),(1,true),(2,true),(4,true),(3,false),(5,false),(6,true),(7,false),(8,false)] [1] GE ?_|with_reducible refine WF ?_)<;>intros)
theorem iH:AV enc 157 (λb=>[.ptr b 0,.slice 1 [[.int .i64 1],[.int .i64 3]] .full]) (Di [1,3]):=Eo (ks:=[1,3]) Do
theorem dD (hL:Lk d L):AV enc 346 (λb=>[pv b d,enc n]) (HB L n):=by
 refine ⟨λ{st0 b s st rows K} hc h=>?_⟩
 simp only [HB,Rd.Al,Rd.AD,Rd.wp_seq,Rd.wp_ret] at h
 refine pB Tryz.func346 ?_
 have hmu:=hc.mu
 repeat' ((conv=>whnf);(first|exact CU|refine A6 ?_|(refine CV ?_ ?_ ?_;rotate_left)|refine A7 ?_ ?_|refine A8 ?_ ?_|refine HH ?_|refine Ll ?_ ?_|refine Kq ?_|refine IE ?_ ?_|exact Fh|refine JQ ?_|refine K6 ?_|refine BV ?_|refine Ac ?_|refine Af [(0,true),(1,true),(2,true),(3,false),(4,true),(5,true)] [] GE ?_|refine Af [(0,true),(1,true),(2,true),(3,true),(5,true),(4,false),(6,false),(7,true),(8,false),(9,true),(10,false),(11,true)] [] GE ?_|with_reducible refine WF ?_)<;>intros)
 refine Cm (λl own=>[(5,.slice 6 (l.map AP) own)]) (λ_ _=>[]) [2,4] [0,2] (λl own=>(own,l)::rows) (λl=>l.length) .full (Cx.push ‹_› _) ‹_› (by show 2+_<=_;omega) Yl ?_
 intro l s1 st1 U hc h hl hm1
 simp only [T6,Nh,Rd.Al,Rd.AD,Rd.wp_seq,Rd.wp_ret,Rd.Br] at h
 repeat' ((conv=>whnf);(first|exact CU|refine A6 ?_|(refine CV ?_ ?_ ?_;rotate_left)|refine A7 ?_ ?_|refine A8 ?_ ?_|refine HH ?_|refine Ll ?_ ?_|refine Kq ?_|refine IE ?_ ?_|exact Fh|refine JQ ?_|refine K6 ?_|refine BV ?_|refine Ac ?_|refine AV.qf iH (Yk rfl) ‹_› ‹_› ?_ ?_|refine FG.go (by first|exact AV.q|exact (hL.exp).a) ?_ ?_|refine Af [(0,true),(1,true),(2,true),(3,false),(4,true),(5,true)] [] GE ?_|refine Af [(0,true),(1,true),(2,true),(3,true),(5,true),(4,false),(6,false),(7,true),(8,false),(9,true),(10,false),(11,true)] [] GE ?_|with_reducible refine WF ?_)<;>intros)
 all_goals conv=>whnf
end
theorem Yi {L:EX}:Rd.AR (Py L):=Rd.AR.look λs v s' h=>by
 split at h
 .rename_i ha
  have hk:=(Kt ha).2
  have U:∀{v:Nd} {s':Ad},Ay.run s=.inr (v,s')->mu s'<mu s:=λe=>Hf e hk
  split at h
  .split at h
   .exact Rd.AR.at (λ_ _ e=>U e) h
   .exact Rd.AR.at (λ_ _ e=>U e) h
  .split at h
   .exact Rd.AR.at (λ_ _ e=>U e) h
   .split at h
    .exact Rd.AR.at (λ_ _ e=>U e) h
    .exact Rd.AR.at (λ_ _ e=>U e) h
 .cases h
theorem U8 {L:EX}:Rd.AR (LX L):=Rd.AR.seq Yi
theorem Tp {L:EX} {v:Nd} (h:(HB L n).run s=.inr (v,s')) (e:AU s 15 [123]=true):mu s'<mu s:=by
 refine Rd.AR.at (λv s' U=>Hf U λz=>?_) h
 unfold AU at e
 simp only [Bool.and_eq_true,beq_iff_eq] at e
 rw [z] at e;exact absurd e.1 Do
theorem Ss {l':List Nd} (h:(E4 stmt l).run s=.inr (l',s')):l'.length+4*mu s'<=l.length+2+4*mu s:=by
 unfold E4 at h
 obtain ⟨b,s1,U,h⟩:=AO h
 obtain ⟨t,s2,h2,h⟩:=AO h
 have e1:=(Bc 10 [124]).le _ _ _ U
 have e2:=stmt.le _ _ _ h2
 have:=Rd.VB (body:=Nu stmt) (w:=List.length) (w':=List.length) (c:=0) (λx s x' s' h=>by
  unfold Nu at h
  replace h:(if AU s 15 [44]=true then Rd.seq Ay λc=>Rd.seq stmt λt=>.ret (.inl (x++[c]++[t])) else .ret (.inr x):Rd (Sum (List Nd) (List Nd))).run s=.inr (.inl x',s'):=h
  split at h
  .obtain ⟨_,_,_,h⟩:=AO h
   obtain ⟨_,_,_,h⟩:=AO h
   cases h
   simp
  .cases h) (λx s y s' h=>by
  unfold Nu at h
  replace h:(if AU s 15 [44]=true then Rd.seq Ay λc=>Rd.seq stmt λt=>.ret (.inl (x++[c]++[t])) else .ret (.inr x):Rd (Sum (List Nd) (List Nd))).run s=.inr (.inr y,s'):=h
  split at h
  .obtain ⟨_,_,_,h⟩:=AO h
   obtain ⟨_,_,_,h⟩:=AO h
   cases h
  .cases h;exact Nat.le_refl _) _ _ _ _ h
 simp only [List.length_append,List.length_cons,List.length_nil] at this
 omega
theorem td {x y:Nat} (h:l.length+4*y<=c+2+4*x) (hc:c<=500000000) (U:x<=100000000):l.length+1<=1000000000:=AC
section
variable {st0 st:St} {b d:Nat} {s:Ad} {rows:List (AJ×List Nd)} {K:AA->St->Prop} {L:EX}
attribute [local irreducible] Go.Aw.Ah
theorem mh (hL:Lk d L):AV enc 288 (λb=>[pv b d]) (LX L):=by
 refine ⟨λ{st0 b s st rows K} hc h=>?_⟩
 simp only [LX,Rd.wp_seq] at h
 refine pB Tryz.func288 ?_
 have hmu:=hc.mu
 repeat' ((conv=>whnf);first|(refine A6 ?_;intros)|(refine A7 ?_ ?_<;>intro e h)|(refine A8 ?_ ?_<;>intro _)|refine AV.go (ml hL) hc h (λn s1 U hr hm hc h=>?_) (λe s1 U hc h=>?_)|exact BP hc h)
 refine Cm (λn own=>[]) (λn own=>[(2,AP n)]) [1,2,3] [0,1] (λl own=>rows) (λ_=>0) .full ‹_› ‹_› ke Yl ?_
 intro n s1 U own1 hc h hl hm1
 simp only [fE,Rd.Al,Rd.AD,Rd.wp_seq,Rd.wp_ret,Rd.Br] at h
 repeat' ((conv=>whnf);first|(refine A6 ?_;intros)|(refine A7 ?_ ?_<;>intro e h)|(refine A8 ?_ ?_<;>intro _)|(refine HH ?_;intro U hc)|(refine Ll ?_ ?_<;>intro U hc e h)|exact Fh|refine Ac (λe1=>?_)|refine AV.go (dD hL) hc h (λn s1 U hr hm hc h=>?_) (λe s1 U hc h=>?_))
 all_goals have hlt:=Tp ‹_› ‹_›
 all_goals conv=>whnf
 all_goals exact ⟨⟨_,_,_,.full⟩,⟨hc,Rd.EK h hlt,bl,bl⟩,hlt,Yl,St.le_refl _⟩
theorem VY (hs:AV enc 360 (λb=>[pv b d]) stmt):pX 293 (λb v=>[pv b d,v]) (λl=>E4 stmt l):=by
 refine ⟨λ{st0 b s st rows K own l} hl hc h=>?_⟩
 simp only [E4,Rd.wp_seq] at h
 refine pB Tryz.func293 ?_
 have hmu:=hc.mu
 repeat' ((conv=>whnf);(first|refine A6 ?_|refine A7 ?_ ?_|refine A8 ?_ ?_|refine UD ?_ ?_|refine HH ?_|refine Ll ?_ ?_|refine Kq ?_|refine IE ?_ ?_|exact Fh|refine K6 ?_|refine Ac ?_|refine FG.go (by first|exact AV.q) ?_ ?_)<;>intros)
 refine Cm (λl own=>[(1,.slice 6 (l.map AP) own)]) (λ_ _=>[]) [2] [0] (λl own=>(own,l)::rows) (λl=>l.length) _ ‹_› ‹_› So Yl ?_
 intro l s1 st1 U hc h hl hm1
 simp only [Nu,Rd.Al,Rd.AD,Rd.wp_seq,Rd.wp_ret,Rd.Br] at h
 repeat' ((conv=>whnf);(first|refine A6 ?_|refine A7 ?_ ?_|refine A8 ?_ ?_|refine UD ?_ ?_|refine HH ?_|refine Ll ?_ ?_|refine Kq ?_|refine IE ?_ ?_|exact Fh|refine K6 ?_|refine Ac ?_|refine FG.go (by first|exact AV.q) ?_ ?_)<;>intros)
theorem n8 {exp:Rd Nd} (he:AV enc 292 (λb=>[pv b d]) exp) (hs:AV enc 360 (λb=>[pv b d]) stmt):AV enc 421 (λb=>[pv b d,enc o]) (N5 exp stmt o):=by
 refine ⟨λ{st0 b s st rows K} hc h=>?_⟩
 simp only [N5,Rd.Al,Rd.AD,Rd.wp_seq,Rd.wp_ret] at h
 refine pB Tryz.func421 ?_
 have hmu:=hc.mu
 repeat' ((conv=>whnf);(first|exact CU|refine A6 ?_|(refine CV ?_ ?_ ?_;rotate_left)|refine A7 ?_ ?_|refine A8 ?_ ?_|refine HH ?_|refine Ll ?_ ?_|refine Kq ?_|refine IE ?_ ?_|exact Fh|refine JQ ?_|refine K6 ?_|refine BV ?_|refine Ac ?_|refine FG.go (by first|exact AV.q) ?_ ?_|refine Cx.Hj ‹_› (td (Ss ‹_›) (Nat.le_of_ble_eq_true rfl) AC) ?_|refine pX.go (l:=[_,_]) (VY hs) (Nat.le_of_ble_eq_true rfl) (Cx.push ‹_› _) ‹_› ?_ ?_|refine Af [(0,true),(1,true),(2,false),(3,true),(4,true)] [] GE ?_|refine Af [(0,true),(1,true),(3,true),(4,true),(2,false),(5,false),(6,true),(7,false),(8,false),(9,false)] [2] GE ?_|with_reducible refine WF ?_)<;>intros)
 refine Cm (λl own=>[(5,.slice 6 (l.map AP) own)]) (λ_ _=>[]) [2,4,6] [0,2] (λl own=>(own,l)::rows) (λl=>l.length) .full (Cx.push ‹_› _) ‹_› (by show 2+_<=_;omega) Yl ?_
 intro l s1 st1 U hc h hl hm1
 simp only [iW,Sc,Rd.Al,Rd.AD,Rd.wp_seq,Rd.wp_ret,Rd.Br] at h
 repeat' ((conv=>whnf);(first|exact CU|refine A6 ?_|(refine CV ?_ ?_ ?_;rotate_left)|refine A7 ?_ ?_|refine A8 ?_ ?_|refine HH ?_|refine Ll ?_ ?_|refine Kq ?_|refine IE ?_ ?_|exact Fh|refine JQ ?_|refine K6 ?_|refine BV ?_|refine Ac ?_|refine FG.go (by first|exact AV.q) ?_ ?_|with_reducible refine WF ?_)<;>intros)
end
section
variable {st0 st:St} {b d:Nat} {s:Ad} {rows:List (AJ×List Nd)} {K:AA->St->Prop} {L:EX}
attribute [local irreducible] Go.Aw.Ah
theorem TM (k:K (.B0 (fault G1.1)) st):PC 216 [pv b d,.bool false] st K:=by
 refine pB Tryz.func216 ?_
 repeat' ((conv=>whnf);(first|refine A6 ?_|refine A7 ?_ ?_|refine A8 ?_ ?_|refine Cd ?_)<;>intros)
 all_goals exact ⟨_,_,.inl rfl,St.le_refl _,k⟩
theorem TN (k:K (.ret (.Bz [])) st):PC 216 [pv b d,.bool true] st K:=by
 refine pB Tryz.func216 ?_
 repeat' ((conv=>whnf);(first|refine A6 ?_|refine A7 ?_ ?_|refine A8 ?_ ?_|refine Cd ?_)<;>intros)
 all_goals exact ⟨_,_,.inl rfl,St.le_refl _,k⟩
theorem pb (hL:Lk d L) {exp:Rd Nd} (he:AV enc 292 (λb=>[pv b d]) exp):AV enc 360 (λb=>[pv b d]) (SF L exp):=by
 refine ⟨λ{st0 b s st rows K} hc h=>?_⟩
 simp only [SF,Pz,Rd.Al,Rd.AD,Rd.wp_seq,Rd.wp_ret,Rd.D5] at h
 refine pB Tryz.func360 ?_
 repeat' ((conv=>whnf);(first|exact CU|refine A6 ?_|(refine CV ?_ ?_ ?_;rotate_left)|refine A7 ?_ ?_|refine A8 ?_ ?_|refine HH ?_|refine Ll ?_ ?_|refine Kq ?_|refine IE ?_ ?_|exact Fh|refine JQ ?_|refine Ac ?_|refine FG.go (by first|exact AV.q|exact (hL.decls).a|exact (VA hL.exp).a) ?_ ?_|refine TB ?_|refine TN ?_|refine TM ?_|refine Af [(0,true),(1,true),(2,false),(3,false)] [] GE ?_|refine Af [(0,true),(1,true),(2,true),(4,true),(3,false),(5,false),(6,true),(7,false),(8,false)] [1] GE ?_|with_reducible refine WF ?_)<;>intros)
 all_goals conv=>whnf
 all_goals exact BP hc.y h
end
theorem U9:Rd.AR (E4 stmt l):=Rd.AR.seq (Lr Do)
theorem Pw {x:Nd} {K:List V->Prop} (h:l[i.toNat]? =some x) (U:0<=i) (k:K (AP x)):0<=i/\∃e,(l.map AP)[i.toNat]? =some e/\K e:=⟨U,AP x,by rw [List.getElem?_map,h];rfl,k⟩
section
variable {st0 st:St} {b d:Nat} {s:Ad} {rows:List (AJ×List Nd)} {K:AA->St->Prop} {L:EX}
attribute [local irreducible] Go.Aw.Ah
theorem KJ (hs:AV enc 360 (λb=>[pv b d]) stmt) {Q:List Nd->Ad->Prop} (hc:Cx st0 b s st rows) (h:Rd.wp (E4 stmt []) s Q E)
 (k:∀l' U s' st',l'.length<=400000002->mu s'<mu s->Cx st0 b s' st' ((U,l')::rows)->Q l' s'->K (.ret (.slice 6 (l'.map AP) U)) st') (kb:∀e s' st',Cy st0 b s' st' rows->E e s'->K (.B0 (fault e.1)) st'):PC 293 [pv b d,.slice 6 [] .full] st K:=
 pX.go (l:=[]) (own:=.full) (VY hs) (Nat.le_of_ble_eq_true rfl) (hc.push _) h (λl' U s' st' hr hm hc' q=>k l' U s' st' (by have:=Ss hr;have:=hc.mu;simp only [List.length_nil] at *;omega) (U9 _ _ _ hr) hc' q) kb
theorem jT (hL:Lk d L) {exp:Rd Nd} {m:List UInt8} (he:AV enc 292 (λb=>[pv b d]) exp) (hs:AV enc 360 (λb=>[pv b d]) stmt):AV enc 218 (λb=>[pv b d,.str m]) (Zb L exp stmt m):=by
 refine ⟨λ{st0 b s st rows K} hc h=>?_⟩
 simp only [Zb,Za,Rd.Al,Rd.AD,Rd.wp_seq,Rd.wp_ret] at h
 have hmu:=hc.mu
 refine pB Tryz.func218 ?_
 repeat' ((conv=>whnf);first|exact CU|(refine A6 ?_;intros)|(refine CV ?_ ?_ ?_;rotate_left)|(refine A7 ?_ ?_<;>intro e h)|(refine A8 ?_ ?_<;>intro _)|refine UD (λ_=>?_) ?_|(refine HH ?_;intro U hc)|(refine Ll ?_ ?_<;>intro U hc e h)|(refine Kq ?_;intro s1 U hz hm hc h)|(refine IE ?_ ?_<;>(first|intro n s1 U hr hm hc h|intro e s1 U hc h))|(refine fv ?_;intro e s1 U hc h)|exact Fh|refine JQ ?_|(refine K6 ?_;intro own1 U hc)|refine BV (λ_=>?_)|refine Ac (λe1=>?_)|refine AV.go he hc h (λn s1 U hr hm hc h=>?_) (λe s1 U hc h=>?_)|refine Cx.qV (l:=[]) (hc.push []) (Nat.le_of_ble_eq_true rfl) (λown1 U hc=>?_)|refine Af [(0,true),(1,true),(2,true),(4,true),(3,false),(5,false),(6,true),(7,false),(8,true)] [] GE ?_|refine Af [(0,true),(1,true),(2,true),(4,true),(3,false),(5,false),(6,true),(7,false),(8,true),(9,false),(10,true)] [] GE ?_|with_reducible refine WF ?_)
 .refine Cm (λl own=>[(5,.slice 6 (l.map AP) own)]) (λ_ _=>[]) [1,2,4] [0,1] (λl own=>(own,l)::rows) (λl=>l.length) _ hc h So Yl ?_
  intro l s1 U own1 hc h hl hm1
  have hl2:l.length+1<=1000000000:=AC
  simp only [Tz,Lw,Rd.Al,Rd.AD,Rd.wp_seq,Rd.wp_ret,Rd.Br] at h
  clear hmu
  have hmu:=hc.mu
  by_cases hn:l=[]
  .subst hn
   rw [if_pos (show ((([]:List Nd).length:Int)==0)=true from rfl)] at h
   repeat' ((conv=>whnf);(first|exact CU|refine A6 ?_|(refine CV ?_ ?_ ?_;rotate_left)|refine A7 ?_ ?_|refine A8 ?_ ?_|refine UD ?_ ?_|refine HH ?_|refine Ll ?_ ?_|refine Kq ?_|refine IE ?_ ?_|refine fv ?_|exact Fh|refine JQ ?_|refine K6 ?_|refine BV ?_|refine Ac ?_|refine KJ hs ‹_› ‹_› ?_ ?_|refine FG.go (by first|exact AV.q|exact (hL.decls).a) ?_ ?_|exact absurd rfl ‹_›|refine Pw hx AC ?_|refine Cx.Hj ‹_› UV ?_|refine Cx.Hj (x:=Aq 30 _) (Cx.drop ‹_›) hl2 ?_|refine Af [(0,true),(1,true),(2,true),(4,true),(3,false),(5,false),(6,true),(7,false),(8,true)] [] GE ?_|refine Af [(0,true),(1,true),(2,true),(4,true),(3,false),(5,false),(6,true),(7,false),(8,true),(9,false),(10,true)] [] GE ?_|with_reducible refine WF ?_)<;>intros)
   all_goals conv=>whnf
  .obtain ⟨x,hx⟩:∃x,l[((0:Int)).toNat]? =some x:=by
    cases l with
    |nil=>exact absurd rfl hn
    |cons x l=>exact ⟨x,rfl⟩
   have hz:((l.length:Int)==0)=false:=beq_eq_false_iff_ne.2 λe=>hn (List.length_eq_zero_iff.1 AC)
   have hd:l.headD Hz=x:=by
    cases l with
    |nil=>exact absurd rfl hn
    |cons y l=>cases hx;rfl
   rw [if_neg (by rw [hz];decide),hd] at h
   repeat' ((conv=>whnf);(first|exact CU|refine A6 ?_|(refine CV ?_ ?_ ?_;rotate_left)|refine A7 ?_ ?_|refine A8 ?_ ?_|refine UD ?_ ?_|refine HH ?_|refine Ll ?_ ?_|refine Kq ?_|refine IE ?_ ?_|refine fv ?_|exact Fh|refine JQ ?_|refine K6 ?_|refine BV ?_|refine Ac ?_|refine KJ hs ‹_› ‹_› ?_ ?_|refine FG.go (by first|exact AV.q|exact (hL.decls).a) ?_ ?_|exact absurd rfl ‹_›|refine Pw hx AC ?_|refine Cx.Hj ‹_› UV ?_|refine Cx.Hj (x:=Aq 30 _) (Cx.drop ‹_›) hl2 ?_|refine Af [(0,true),(1,true),(2,true),(4,true),(3,false),(5,false),(6,true),(7,false),(8,true)] [] GE ?_|refine Af [(0,true),(1,true),(2,true),(4,true),(3,false),(5,false),(6,true),(7,false),(8,true),(9,false),(10,true)] [] GE ?_|with_reducible refine WF ?_)<;>intros)
   all_goals conv=>whnf
 .refine Cm (λl own=>[(5,.slice 6 (l.map AP) own)]) (λ_ _=>[]) [1,2,4] [0,1] (λl own=>(own,l)::rows) (λl=>l.length) .full (hc.push []) h So Yl ?_
  intro l s1 U own1 hc h hl hm1
  have hl2:l.length+1<=1000000000:=AC
  simp only [Tz,Lw,Rd.Al,Rd.AD,Rd.wp_seq,Rd.wp_ret,Rd.Br] at h
  clear hmu
  have hmu:=hc.mu
  by_cases hn:l=[]
  .subst hn
   rw [if_pos (show ((([]:List Nd).length:Int)==0)=true from rfl)] at h
   repeat' ((conv=>whnf);(first|exact CU|refine A6 ?_|(refine CV ?_ ?_ ?_;rotate_left)|refine A7 ?_ ?_|refine A8 ?_ ?_|refine UD ?_ ?_|refine HH ?_|refine Ll ?_ ?_|refine Kq ?_|refine IE ?_ ?_|refine fv ?_|exact Fh|refine JQ ?_|refine K6 ?_|refine BV ?_|refine Ac ?_|refine KJ hs ‹_› ‹_› ?_ ?_|refine FG.go (by first|exact AV.q|exact (hL.decls).a) ?_ ?_|exact absurd rfl ‹_›|refine Pw hx AC ?_|refine Cx.Hj ‹_› UV ?_|refine Cx.Hj (x:=Aq 30 _) (Cx.drop ‹_›) hl2 ?_|refine Af [(0,true),(1,true),(2,true),(4,true),(3,false),(5,false),(6,true),(7,false),(8,true)] [] GE ?_|refine Af [(0,true),(1,true),(2,true),(4,true),(3,false),(5,false),(6,true),(7,false),(8,true),(9,false),(10,true)] [] GE ?_|with_reducible refine WF ?_)<;>intros)
   all_goals conv=>whnf
  .obtain ⟨x,hx⟩:∃x,l[((0:Int)).toNat]? =some x:=by
    cases l with
    |nil=>exact absurd rfl hn
    |cons x l=>exact ⟨x,rfl⟩
   have hz:((l.length:Int)==0)=false:=beq_eq_false_iff_ne.2 λe=>hn (List.length_eq_zero_iff.1 AC)
   have hd:l.headD Hz=x:=by
    cases l with
    |nil=>exact absurd rfl hn
    |cons y l=>cases hx;rfl
   rw [if_neg (by rw [hz];decide),hd] at h
   repeat' ((conv=>whnf);(first|exact CU|refine A6 ?_|(refine CV ?_ ?_ ?_;rotate_left)|refine A7 ?_ ?_|refine A8 ?_ ?_|refine UD ?_ ?_|refine HH ?_|refine Ll ?_ ?_|refine Kq ?_|refine IE ?_ ?_|refine fv ?_|exact Fh|refine JQ ?_|refine K6 ?_|refine BV ?_|refine Ac ?_|refine KJ hs ‹_› ‹_› ?_ ?_|refine FG.go (by first|exact AV.q|exact (hL.decls).a) ?_ ?_|exact absurd rfl ‹_›|refine Pw hx AC ?_|refine Cx.Hj ‹_› UV ?_|refine Cx.Hj (x:=Aq 30 _) (Cx.drop ‹_›) hl2 ?_|refine Af [(0,true),(1,true),(2,true),(4,true),(3,false),(5,false),(6,true),(7,false),(8,true)] [] GE ?_|refine Af [(0,true),(1,true),(2,true),(4,true),(3,false),(5,false),(6,true),(7,false),(8,true),(9,false),(10,true)] [] GE ?_|with_reducible refine WF ?_)<;>intros)
   all_goals conv=>whnf
end
section
variable {st0 st:St} {b d:Nat} {s:Ad} {rows:List (AJ×List Nd)} {K:AA->St->Prop} {L:EX}
attribute [local irreducible] Go.Aw.Ah
theorem qT (hL:Lk d L) {ops exp:Rd Nd} (U:AV enc 212 (λb=>[pv b d]) ops) (he:AV enc 292 (λb=>[pv b d]) exp) (hs:AV enc 360 (λb=>[pv b d]) stmt):
 AV enc 415 (λb=>[pv b d]) (ca L ops exp stmt):=by
 refine ⟨λ{st0 b s st rows K} hc h=>?_⟩
 simp only [ca,Rd.AD,Rd.wp_seq,Rd.wp_ret,Rd.D5] at h
 refine pB Tryz.func415 ?_
 repeat' ((conv=>whnf);(first|exact CU|refine A6 ?_|(refine CV ?_ ?_ ?_;rotate_left)|refine A7 ?_ ?_|refine A8 ?_ ?_|exact Fh|refine JQ ?_|refine Ac ?_|refine FG.go (by first|exact AV.q|exact (jT hL he hs).a) ?_ ?_|refine TB ?_|refine TN ?_|refine TM ?_|refine Af [(0,true),(1,true),(2,false),(3,false)] [] GE ?_|refine Af [(0,true),(1,true),(2,false),(3,true),(4,false),(5,false)] [1] GE ?_|with_reducible refine WF ?_)<;>intros)
end
theorem Rd.ja {body:σ->Rd (Sum σ β)} {P:β->Prop} (h1:∀x s y s',(body x).run s=.inr (.inr y,s')->P y) (x:σ) (s:Ad):∀y s',(Rd.loop body x).run s=.inr (y,s')->P y:=by
 show ∀y s',Rd.iter body x s=.inr (y,s')->_
 fun_induction Rd.iter body x s with
 |case1 x s e h=>intro y s' U;cases U
 |case2 x s y s1 h=>intro y s' U;cases U;exact h1 _ _ _ _ h
 |case3 x s x' s1 h hlt ih=>exact ih
 |case4 x s x' s1 h hlt=>intro y s' U;cases U
theorem ko {U:Rd Nd} {p:List Nd×Bool} (h:(N0 U br).run s=.inr (p,s')):∃x,p.1[((p.1.length:Nat) - 1:Int).toNat]? =some x/\p.1.getLastD Hz=x/\1<=p.1.length:=by
 have:∃l x,p.1=l++[x]:=by
  refine Rd.ja (body:=jX U br) (P:=λp=>∃l x,p.1=l++[x]) (λx s y s' h=>?_) _ _ _ _ h
  unfold jX at h
  obtain ⟨l,s1,_,h⟩:=AO h
  obtain ⟨n,s2,_,h⟩:=AO h
  replace h:(if IZ (Ab s2).1=true then .seq HA λo=>
   if br=true then .look λs=>if AU s 15 [41]=true then .ret (.inr (l++[n]++[o],true)) else .ret (.inl (l++[n]++[o]))
   else .ret (.inl (l++[n]++[o]))
   else .ret (.inr (l++[n],false)):Rd (Sum (List Nd) (List Nd×Bool))).run s2=.inr (.inr y,s'):=h
  split at h
  .obtain ⟨o,s3,_,h⟩:=AO h
   split at h
   .replace h:(if AU s3 15 [41]=true then .ret (.inr (l++[n]++[o],true)) else .ret (.inl (l++[n]++[o])):Rd (Sum (List Nd) (List Nd×Bool))).run s3=.inr (.inr y,s'):=h
    split at h
    .cases h;exact ⟨_,_,rfl⟩
    .cases h
   .cases h
  .cases h;exact ⟨_,_,rfl⟩
 obtain ⟨l,x,e⟩:=this
 refine ⟨x,?_,?_,?_⟩
 .rw [e];simp only [List.length_append,List.length_cons,List.length_nil]
  rw [show (((l.length+(0+1):Nat):Int) - 1).toNat=l.length by omega]
  simp
 .rw [e];simp
 .rw [e];simp
theorem Zf {K:List (List V)->Prop} (hn:1<=l.length) (k:K ((l.take (l.length - 1)).map AP)):
 ((0:Int)<=0/\(0:Int)<=(l.length:Int) - 1/\(l.length:Int) - 1=(l.length:Int) - 1/\(l.length:Int) - 1<=((l.map AP).length:Int))/\∀U,U=List.drop (Int.toNat 0) (List.take ((l.length:Int) - 1).toNat (l.map AP))->K U:=by
 refine ⟨⟨AC,AC,rfl,by rw [List.length_map];omega⟩,λU e=>?_⟩
 rw [e,show ((l.length:Int) - 1).toNat=l.length - 1 by omega,<-List.map_take]
 exact k
section
variable {st0 st:St} {b d:Nat} {s:Ad} {rows:List (AJ×List Nd)} {K:AA->St->Prop} {L:EX}
attribute [local irreducible] Go.Aw.Ah
theorem S6 {opd full exp:Rd Nd} (ho:AV enc 342 (λb=>[pv b d]) opd) (hf:AV enc 289 (λb=>[pv b d]) full) (he:AV enc 292 (λb=>[pv b d]) exp):
 AV enc 419 (λb=>[pv b d,enc o]) (D8 opd full exp o):=by
 refine ⟨λ{st0 b s st rows K} hc h=>?_⟩
 simp only [D8,Rd.AD,Rd.wp_seq,Rd.wp_ret,Rd.D5] at h
 have hmu:=hc.mu
 refine A5 Ae [] Tryz.func419 rfl Do rfl ?_
 refine Ak (An Ae ?_)
 repeat' ((conv=>whnf);first|exact CU|(refine A6 ?_;intros)|(refine CV ?_ ?_ ?_;rotate_left)|(refine A7 ?_ ?_<;>intro e h)|(refine A8 ?_ ?_<;>intro _)|with_reducible refine WF ?_)
 refine Ak (An Ae ?_)
 repeat' ((conv=>whnf);first|exact CU|(refine A6 ?_;intros)|(refine CV ?_ ?_ ?_;rotate_left)|(refine A7 ?_ ?_<;>intro e h)|(refine A8 ?_ ?_<;>intro _)|refine pW.go (kq ho) hc h (λp own1 s1 U hr hm hc h=>?_) (λe s1 U hc h=>?_)|exact BP hc h|with_reducible refine WF ?_)
 all_goals obtain ⟨x,hx,hd,hn⟩:=ko hr
 all_goals try rw [hd] at h
 all_goals refine An Ae ?_
 all_goals (repeat' ((conv=>whnf);first|exact CU|(refine A6 ?_;intros)|(refine CV ?_ ?_ ?_;rotate_left)|(refine A7 ?_ ?_<;>intro e h)|(refine A8 ?_ ?_<;>intro _)|(refine HH ?_;intro U hc)|(refine Ll ?_ ?_<;>intro U hc e h)|(refine Kq ?_;intro s1 U hz hm hc h)|(refine IE ?_ ?_<;>(first|intro n s1 U hr hm hc h|intro e s1 U hc h))|exact Fh|refine JQ ?_|(refine K6 ?_;intro own1 U hc)|refine BV (λ_=>?_)|refine Ac (λe1=>?_)|refine Zf hn ?_|refine Pw hx AC ?_|refine AV.go (XD hf) hc h (λn s1 U hr hm hc h=>?_) (λe s1 U hc h=>?_)|refine Af [(0,true),(1,true),(2,true),(3,true),(4,true),(6,true),(7,true),(8,true),(9,true),(10,true),(11,true),(5,false),(12,false),(13,true),(14,false),(15,false)] [2] GE ?_|refine Af [(0,true),(1,true),(2,true),(3,false),(4,false),(5,true),(6,true)] [] GE ?_|with_reducible refine WF ?_))
 all_goals refine Cm (λ(q:Int×List Nd) own=>[(9,.int .i64 q.1),(8,.slice 6 (q.2.map AP) own)]) (λ_ _=>[]) [2,4] [0,2] (λq own=>(own,q.2)::rows) (λq=>q.2.length) .full (hc.drop.push _) h (by show 2+_<=_;omega) Yl ?_
 all_goals intro q s1 U own1 hc h hl hm1
 all_goals simp only [Zw,Rd.Al,Rd.AD,Rd.wp_seq,Rd.wp_ret,Rd.Br] at h
 all_goals obtain ⟨k,l⟩:=q
 all_goals dsimp only at hc h hl
 all_goals (repeat' ((conv=>whnf);first|exact CU|(refine A6 ?_;intros)|(refine CV ?_ ?_ ?_;rotate_left)|(refine A7 ?_ ?_<;>intro e h)|(refine A8 ?_ ?_<;>intro _)|exact ⟨⟨(5,_),_,_,_⟩,⟨hc,Rd.EK h f7,f9,f7⟩,f7,Yl,St.le_refl _⟩|(refine HH ?_;intro U hc)|(refine Ll ?_ ?_<;>intro U hc e h)|(refine Kq ?_;intro s1 U hz hm hc h)|(refine IE ?_ ?_<;>(first|intro n s1 U hr hm hc h|intro e s1 U hc h))|exact Fh|refine JQ ?_|(refine K6 ?_;intro own1 U hc)|refine BV (λ_=>?_)|refine Ac (λe1=>?_)|refine AV.go he hc h (λn s1 U hr hm hc h=>?_) (λe s1 U hc h=>?_)|refine Af [(0,true),(1,true),(2,true),(3,true),(4,true),(6,true),(7,true),(8,true),(9,true),(10,true),(11,true),(5,false),(12,false),(13,true),(14,false),(15,false)] [2] GE ?_|refine Af [(0,true),(1,true),(2,true),(3,false),(4,false),(5,true),(6,true)] [] GE ?_|with_reducible refine WF ?_))
 all_goals conv=>whnf
end
section
variable {st0 st:St} {b d c:Nat} {s:Ad} {rows:List (AJ×List Nd)} {K:AA->St->Prop} {L:EX} {o:Nd} {A:Rd Nd}
theorem jU (hb:AV enc 419 (λb=>[pv b d,enc o]) A) (U:st.box c=some (AP o)) (hc:Cx st0 b s st rows)
 (h:Rd.wp A s (λv s'=>∀st',Cx st0 b s' st' rows->K (.ret (enc v)) st') (λe s'=>∀st',Cy st0 b s' st' rows->K (.B0 (fault e.1)) st')):PC 418 [pv b d,.ptr c 0] st K:=by
 refine pB Tryz.func418 ?_
 repeat' ((conv=>whnf);(first|refine A6 ?_|refine A7 ?_ ?_|refine A8 ?_ ?_|refine Au U ?_|refine FG.go (by first|exact AV.q) ?_ ?_|exact Fh|refine Ac ?_)<;>intros)
theorem dR (hb:AV enc 421 (λb=>[pv b d,enc o]) A) (U:st.box c=some (AP o)) (hc:Cx st0 b s st rows)
 (h:Rd.wp A s (λv s'=>∀st',Cx st0 b s' st' rows->K (.ret (enc v)) st') (λe s'=>∀st',Cy st0 b s' st' rows->K (.B0 (fault e.1)) st')):PC 420 [pv b d,.ptr c 0] st K:=by
 refine pB Tryz.func420 ?_
 repeat' ((conv=>whnf);(first|refine A6 ?_|refine A7 ?_ ?_|refine A8 ?_ ?_|refine Au U ?_|refine FG.go (by first|exact AV.q) ?_ ?_|exact Fh|refine Ac ?_)<;>intros)
end
section
variable {st0 st:St} {b d:Nat} {s:Ad} {rows:List (AJ×List Nd)} {K:AA->St->Prop} {L:EX}
attribute [local irreducible] Go.Aw.Ah
theorem Yq:AV enc 281 (λb=>[pv b d]) Ay:=by
 refine ⟨λ{st0 b s st rows K} hc h=>?_⟩
 refine pB Tryz.func281 ?_
 repeat' ((conv=>whnf);(first|refine A6 ?_|refine A7 ?_ ?_|refine A8 ?_ ?_|refine GJ.go ‹_› ‹_› ?_ ?_|refine Kq ?_|refine IE ?_ ?_|exact Fh|refine Ac ?_)<;>intros)
theorem jI {x:Nd} (hx:n.kids[(Int.tdiv (n.kids.length:Int) 2).toNat]? =some x) (U:n.kids[n.kids.length / 2]? =some x) (h:K (.ret (.bool (HU n))) st):PC 284 [enc n] st K:=by
 have e:HU n= !(x.form==7||x.form==8||x.form==3||x.form==4):=by unfold HU;rw [U]
 rw [e] at h
 refine pB Tryz.func284 ?_
 have h0:0<=Int.tdiv (n.kids.length:Int) 2:=Int.tdiv_nonneg AC AC
 repeat' ((conv=>whnf);(first|refine A6 ?_|refine A7 ?_ ?_|refine A8 ?_ ?_|refine Wm hx h0 ?_)<;>intros)
 all_goals conv=>whnf
 all_goals (refine At h ?_;clear h;simp_all)
end
end Go.Proofs.Z
namespace Go.Aw
open Go
theorem dx {P:Program} {s:List UInt8} {r:List V} {st:St} {R:AA->St->Prop} (hb:Plain P f) (h:s.length<4611686018427387904->A9 P f (.str s::r) st R):A9 P f (.str s::r) st R:=by
 refine ⟨?_,hb⟩
 intro I w cargs hs U
 have hl:s.length<4611686018427387904:=by
  have h2:=U
  simp only [Aj,AK] at h2
  obtain ⟨c,rr,_,h2,_⟩:=h2
  exact h2.2
 exact (h hl).a I w cargs hs U
def J4 (s:List UInt8) (k:Int):Bool:=(D6 s).1==k&&(s.take (D6 s).2==s)
theorem eu {s:List UInt8} {n:Nat} (h:n<=s.length):s.take n=s↔n=s.length:=by
 constructor
 .intro e
  have:=congrArg List.length e
  rw [List.length_take] at this
  omega
 .intro e;rw [e,List.take_length]
theorem Nk {s:List UInt8}:J4 s k=true↔(D6 s).1=k/\(D6 s).2=s.length:=by
 unfold J4
 rw [Bool.and_eq_true,beq_iff_eq,beq_iff_eq,eu (TV s)]
theorem eW {s:List UInt8} (h:J4 s 11=true):BD (Cz s).1 (s.drop (Cz s).2)=s.length - (Cz s).2/\(Cz s).2<=s.length:=by
 obtain ⟨U,h2⟩:=Nk.1 h
 by_cases hb:(Cz s).1=10
 .have hp:Cz s=(10,0):=by
   rcases MG s with e|⟨e,_⟩|⟨e,_⟩
   .exact e
   .rw [e] at hb;cases hb
   .rw [e] at hb;cases hb
  rw [hp]
  refine ⟨?_,Nat.zero_le _⟩
  show BD 10 (s.drop 0)=s.length - 0
  rw [List.drop_zero,Nat.sub_zero]
  by_cases h0:BD 10 s=0
  .rw [ju hb h0] at U;cases U
  .have e:=YX (l:=s) hb rfl h0 rfl rfl
   rw [e] at U h2
   dsimp only at U h2
   split at U
   .cases U
   .omega
 .have e:=YW (l:=s) hb
  have hp2:(Cz s).2=2:=by
   rcases MG s with e|⟨e,_⟩|⟨e,_⟩
   .rw [e] at hb;exact absurd rfl hb
   .rw [e]
   .rw [e]
  rw [e] at h2
  dsimp only at h2
  rw [hp2]
  omega
theorem cz {c b:Int} (hb:b<=16) (h:¬BH c b<0):0<=BH c b/\BH c b<b/\BH c b<=15:=by
 unfold BH at h |-
 dsimp only at h |-
 (repeat' split at h)<;>(repeat' split)<;>omega
end Go.Aw
namespace Go.Proofs.Z
open Go Go.Aw
theorem XJ {base:Int} {s:List UInt8} {pos m:Nat} (h:pos<s.length) (hd:(c,m)=AL (s.drop pos)) (k:¬BH (c:Int) base<0):
 m=1/\Kp base (s.drop pos) v=if (4611686018427387904 - BH (c:Int) base) / base<v then (0,3) else Kp base (s.drop (pos+1)) (v*base+BH (c:Int) base):=by
 obtain ⟨a,ha⟩:∃a,s[pos]? =some a:=⟨_,List.getElem?_eq_getElem h⟩
 have e:=drop_at ha
 have U:a.toNat<128:=by
  apply Classical.byContradiction
  intro hn
  have:=OO (r:=s.drop (pos+1)) hn
  rw [e] at hd
  rw [<-hd] at this
  exact k (H2 (by dsimp only at this;omega))
 rw [e,Fk U] at hd
 obtain ⟨rfl,rfl⟩:=Prod.mk.inj hd
 refine ⟨rfl,?_⟩
 rw [e,Kp]
theorem kF {s t:List UInt8} {n:Nat} {K:List UInt8->Prop} (ht:s.drop n=t) (U:0<=(n:Int)) (h1:(n:Int)<=s.length) (k:K t):
 (0<=(n:Int)/\(n:Int)<=(s.length:Int)/\(s.length:Int)<=s.length)/\∀s',s'=(s.take (s.length:Int).toNat).drop (n:Int).toNat->K s':=WN U h1 (by subst ht;exact k)
section
variable {st:St} {R:AA->St->Prop}
theorem tM {s:List UInt8} (U:s.length<=4611686018427387903) (h:R (.ret (.bool (J4 s k))) st):PC 387 [.str s,.int .i64 k] st R:=by
 refine pB Tryz.func387 ?_
 repeat' ((conv=>whnf);(first|refine A6 ?_|refine A7 ?_ ?_|refine A8 ?_ ?_|refine aS U ?_)<;>intros)
 all_goals conv=>whnf
 all_goals (refine At h ?_;clear h;simp_all [J4])
theorem ql {s:List UInt8} {b:Bool} (e:J4 s k=b) (U:s.length<=4611686018427387903) (h:R (.ret (.bool b)) st):PC 387 [.str s,.int .i64 k] st R:=tM U (by rw [e];exact h)
theorem mM {t:List UInt8} {pos m:Nat} {b:Int} (hb:b<=16) (hl:pos<t.length) (hd:(c,m)=AL (t.drop pos)) (hr:BD b (t.drop pos)=t.length - pos) (k:∀d,d=BH c b->0<=d->d<b->R (.ret (.int .i64 d)) st):PC 374 [.int .i32 c,.int .i64 b] st R:=by
 have hn:¬BH (c:Int) b<0:=λe=>by
  have:=HC hl hd e
  omega
 obtain ⟨U,h2,_⟩:=cz hb hn
 exact Mb (k _ rfl U h2)
theorem tL {b d:Int} {K:Int->Prop} (hb:b=10\/b=8\/b=16) (U:0<=v) (h1:0<=d) (h2:d<b) (h3:¬(4611686018427387904 - d) / b<v) (k:K (v*b)):∃r,r=IntKind.i64.wrap (v*b)/\K r:=by
 refine ⟨_,(KX ?_ ?_).symm,k⟩<;>(rcases hb with rfl|rfl|rfl<;>omega)
theorem tc {b d:Int} {K:Int->Prop} (hb:b=10\/b=8\/b=16) (U:0<=v) (h1:0<=d) (h2:d<b) (h3:¬(4611686018427387904 - d) / b<v) (k:K (v*b+d)):∃r,r=IntKind.i64.wrap (v*b+d)/\K r:=by
 refine ⟨_,(KX ?_ ?_).symm,k⟩<;>(rcases hb with rfl|rfl|rfl<;>omega)
theorem tu {b d:Int} (hb:b=10\/b=8\/b=16) (U:0<=v) (h1:0<=d) (h2:d<b) (h3:¬(4611686018427387904 - d) / b<v):0<=v*b+d/\v*b+d<=4611686018427387904:=by
 rcases hb with rfl|rfl|rfl<;>omega
theorem eX {s:List UInt8} {b:Int} {n:Nat} (hn:J4 s 11=true) (hp:Cz s=(b,n)):Ko s=Kp b (s.drop n) 0:=by
 unfold Ko
 rw [if_pos (Nk.1 hn),hp]
theorem pR {s:List UInt8} (h:R (.ret (.Bz [.int .i64 (Ko s).1,.int .i64 (Ko s).2])) st):PC 340 [.str s] st R:=by
 refine dx ⟨_,Tryz.func340,Do,Do⟩ λhl0=>?_
 have hl:s.length<=4611686018427387903:=AC
 refine pB Tryz.func340 ?_
 cases hn:J4 s 11 with
 |false=>
  have hw:Ko s=(0,40):=by
   unfold Ko
   rw [if_neg λe=>?_]
   rw [Nk.2 e] at hn;cases hn
  rw [hw] at h
  repeat' ((conv=>whnf);first|(refine A6 ?_;intros)|(refine A7 ?_ ?_<;>intro e h)|(refine A8 ?_ ?_<;>intro _)|refine ql hn hl ?_)
  all_goals exact fin h rfl
 |true=>
  obtain ⟨hr,hle⟩:=eW hn
  have key:∀(b:Int) (n:Nat),Cz s=(b,n)->b=10\/b=8\/b=16:=λb n e=>by
   rcases MG s with h|⟨h,_⟩|⟨h,_⟩<;>(rw [h] at e;cases e;omega)
  generalize hp:Cz s=p at hr hle
  obtain ⟨b,n⟩:=p
  have hp0:Cz s=(b,n):=hp
  dsimp only at hr hle
  have hb:=key b n hp
  rw [eX hn hp] at h
  have hlen:(s.drop n).length=s.length - n:=by rw [List.length_drop]
  generalize ht:s.drop n=t at h hr hlen
  have hr:BD b t=t.length:=AC
  clear hp key hlen
  repeat' ((conv=>whnf);first|(refine A6 ?_;intros)|(refine A7 ?_ ?_<;>intro e h)|(refine A8 ?_ ?_<;>intro _)|refine ql hn hl ?_|refine Jj hp0 hl ?_|refine kF ht AC AC ?_)
  conv=>whnf
  refine YJ (α:=Nat) (β:=Int) (λpos v=>[(6,.int .i64 v)]) (λpos v=>[(0,[.Oz t pos])]) [0,4,5,21] [] (λ_ _=>st) (λpos v=>pos<=t.length/\BD b (t.drop pos)=t.length - pos/\Kp b t 0=Kp b (t.drop pos) v/\0<=v/\v<=4611686018427387904) (λpos v=>t.length - pos) 0 0 ⟨Nat.zero_le _,by rw [List.drop_zero];omega,by rw [List.drop_zero],AC,AC⟩ Yl (St.le_refl _) ?_
  rintro pos v ⟨j1,j2,j3,j4,j5⟩
  rw [j3] at h
  have hb0:0<b:=AC
  repeat' ((conv=>whnf);first|(refine A6 ?_;intros)|(refine A7 ?_ ?_<;>intro e h)|(refine A8 ?_ ?_<;>intro _)|refine WK (λc m hd=>?_)|refine Wr hb0 AC AC ?_|refine mM AC ‹_› ‹_› j2 (λd U hd1 hd2=>?_)|refine tL hb j4 hd1 hd2 ‹_› ?_|refine tc hb j4 hd1 hd2 ‹_› ?_)
  .rename_i hlt hgt
   obtain ⟨e1,e2⟩:=XJ (v:=v) (base:=b) hlt hd (by rw [<-U];omega)
   rw [e2,<-U,if_pos hgt] at h
   exact fin h rfl
  .rename_i hlt hgt
   obtain ⟨e1,e2⟩:=XJ (v:=v) (base:=b) hlt hd (by rw [<-U];omega)
   have e3:=(MK (base:=b) hlt hd (by rw [<-U];omega)).2
   rw [<-U,if_neg hgt] at e2
   have hf:=tu hb j4 hd1 hd2 hgt
   subst e1
   conv=>whnf
   exact ⟨(pos+1,v*b+d),⟨bl,bl,by rw [j3,e2],hf.1,hf.2⟩,bl,Yl,St.le_refl _⟩
  .rename_i hlt
   rw [List.drop_eq_nil_iff.2 AC] at h
   exact fin h rfl
end
theorem Dv.sz {A:Rd Nd} (h:Dv A) (U:A.run s=.inr (n,s')) (hm:mu s<=100000000):n.size<=1000000000:=by have:=h.size U;omega
theorem jC (h:HA.run s=.inr (n,s')):∃x,n.kids[(Int.tdiv (n.kids.length:Int) 2).toNat]? =some x/\n.kids[n.kids.length / 2]? =some x:=by
 unfold HA at h
 replace h:(if Iw (Ab s).1=true then Rd.seq Ay λt=>.ret (Aq 18 [t]) else Rd.seq (Bc 15 [96]) λo=>.seq (Di [1,2,3,4]) λn=>.seq (Bc 15 [96]) λc=>.ret (Aq 18 [o,n,c]):Rd Nd).run s=.inr (n,s'):=h
 split at h
 .obtain ⟨t,s1,_,h⟩:=AO h
  cases h
  exact ⟨t,(by show [t][(Int.tdiv (1:Int) 2).toNat]? =some t;rw [show (Int.tdiv (1:Int) 2).toNat=0 by decide];rfl),by simp [Aq,Nd.kids]⟩
 .obtain ⟨o,s1,_,h⟩:=AO h
  obtain ⟨x,s2,_,h⟩:=AO h
  obtain ⟨c,U,_,h⟩:=AO h
  cases h
  exact ⟨x,(by show [o,x,c][(Int.tdiv (3:Int) 2).toNat]? =some x;rw [show (Int.tdiv (3:Int) 2).toNat=1 by decide];rfl),by simp [Aq,Nd.kids]⟩
section
variable {st0 st:St} {b d:Nat} {s:Ad} {rows:List (AJ×List Nd)} {K:AA->St->Prop} {L:EX}
attribute [local irreducible] Go.Aw.Ah
theorem mL (h:K (.ret (.bool (Nb n))) st):PC 282 [enc n] st K:=by
 refine pB Tryz.func282 ?_
 repeat' ((conv=>whnf);(first|refine A6 ?_|refine A7 ?_ ?_|refine A8 ?_ ?_|refine pR ?_)<;>intros)
 all_goals conv=>whnf
 all_goals (refine At h ?_;clear h;simp_all [Nb])
theorem Vc:AV enc 280 (λb=>[pv b d,.func 283 [] [],.func 284 [] []]) (CX HA HU):=
 KB O1 λhr _ k=>by obtain ⟨x,U,h2⟩:=jC hr;exact jI U h2 k
theorem nn:AV enc 280 (λb=>[pv b d,.func 281 [] [],.func 282 [] []]) (CX Ay Nb):=
 KB Yq λ_ _ k=>mL k
theorem nz {atom:Rd Nd} (ha:AV enc 288 (λb=>[pv b d]) atom) (U:Dv atom):AV enc 280 (λb=>[pv b d,.func 288 [] [],.func 287 [] []]) (CX atom XE):=
 KB ha λhr hm k=>av (Dv.sz U hr hm) k
theorem cT:AV enc 211 (λb=>[pv b d]) IU:=by
 refine ⟨λ{st0 b s st rows K} hc h=>?_⟩
 simp only [IU,IQ,Rd.Al,Rd.AD,Rd.wp_seq,Rd.wp_ret] at h
 have hmu:=hc.mu
 refine pB Tryz.func211 ?_
 repeat' ((conv=>whnf);(first|refine A6 ?_|refine A7 ?_ ?_|refine A8 ?_ ?_|refine Cx.Hj (l:=[_]) (Cx.push ‹_› [_]) (Nat.le_of_ble_eq_true rfl) ?_|refine HH ?_|refine Ll ?_ ?_|refine Kq ?_|refine IE ?_ ?_|exact Fh|refine JQ ?_|refine K6 ?_|refine Ac ?_|refine FG.go (by first|exact AV.q|exact nn.a|exact Vc.a) ?_ ?_)<;>intros)
 all_goals refine Cm (λl own=>[(3,.slice 6 (l.map AP) own)]) (λ_ _=>[]) [1,2] [0,1] (λl own=>(own,l)::rows) (λl=>l.length) _ ‹_› ‹_› So Yl ?_
 all_goals intro l s1 st1 U hc h hl hm1
 all_goals simp only [Tt,Rd.Al,Rd.AD,Rd.wp_seq,Rd.wp_ret,Rd.Br] at h
 all_goals (repeat' ((conv=>whnf);(first|refine A6 ?_|refine A7 ?_ ?_|refine A8 ?_ ?_|refine HH ?_|refine Ll ?_ ?_|refine Kq ?_|refine IE ?_ ?_|exact Fh|refine JQ ?_|refine K6 ?_|refine Ac ?_|refine FG.go (by first|exact AV.q|exact Vc.a) ?_ ?_)<;>intros))
theorem sF {atom full:Rd Nd} (hn:n.size<=1000000000) (ha:AV enc 288 (λb=>[pv b d]) atom) (hD:Dv atom) (hf:AV enc 289 (λb=>[pv b d]) full):AV enc 214 (λb=>[pv b d,enc n]) (WS atom full n):=by
 refine ⟨λ{st0 b s st rows K} hc h=>?_⟩
 simp only [WS,Rd.AD,Rd.wp_seq,Rd.wp_ret,Rd.D5] at h
 have hmu:=hc.mu
 refine pB Tryz.func214 ?_
 repeat' ((conv=>whnf);(first|exact CU|refine A6 ?_|(refine CV ?_ ?_ ?_;rotate_left)|refine A7 ?_ ?_|refine A8 ?_ ?_|refine HH ?_|refine Ll ?_ ?_|refine Kq ?_|refine IE ?_ ?_|exact Fh|refine JQ ?_|refine K6 ?_|refine Ac ?_|refine av hn ?_|refine TN ?_|refine TM ?_|refine Af [(0,true),(1,true),(2,false),(3,false)] [] GE ?_|with_reducible refine WF ?_)<;>intros)
 all_goals refine Cm (λl own=>[(5,.slice 6 (l.map AP) own)]) (λ_ _=>[]) [2,3,4] [0,1,2] (λl own=>(own,l)::rows) (λl=>l.length) .full (Cx.push ‹_› _) ‹_› (by show 1+_<=_;omega) Yl ?_
 all_goals intro l s1 st1 U hc h hl hm1
 all_goals simp only [sE,Rd.Al,Rd.AD,Rd.wp_seq,Rd.wp_ret,Rd.Br] at h
 all_goals (repeat' ((conv=>whnf);(first|exact CU|refine A6 ?_|(refine CV ?_ ?_ ?_;rotate_left)|refine A7 ?_ ?_|refine A8 ?_ ?_|refine HH ?_|refine Ll ?_ ?_|refine Kq ?_|refine IE ?_ ?_|exact Fh|refine JQ ?_|refine K6 ?_|refine Ac ?_|refine FG.go (by first|exact AV.q|exact (nz ha hD).a) ?_ ?_|with_reducible refine WF ?_)<;>intros))
theorem mK {atom ops exp full:Rd Nd} (hL:Lk d L) (ha:AV enc 288 (λb=>[pv b d]) atom) (hD:Dv atom) (ho:AV enc 212 (λb=>[pv b d]) ops) (hE:Dv ops) (he:AV enc 292 (λb=>[pv b d]) exp)
 (hs:AV enc 360 (λb=>[pv b d]) stmt) (hf:AV enc 289 (λb=>[pv b d]) full):AV enc 155 (λb=>[pv b d]) (RX L atom ops exp stmt full):=by
 refine ⟨λ{st0 b s st rows K} hc h=>?_⟩
 simp only [RX,Rd.Al,Rd.AD,Rd.wp_seq,Rd.wp_ret,Rd.D5] at h
 have U:=hc.mu
 refine pB Tryz.func155 ?_
 repeat' ((conv=>whnf);(first|exact CU|refine A6 ?_|(refine CV ?_ ?_ ?_;rotate_left)|refine A7 ?_ ?_|refine A8 ?_ ?_|refine HH ?_|refine Ll ?_ ?_|exact Fh|refine JQ ?_|refine Ac ?_|refine Ts ?_|refine FG.go (by first|exact AV.q|exact cT.a|exact (sF (Dv.sz hE ‹_› U) ha hD hf).a|exact (jT hL he hs).a) ?_ ?_|refine tG ?_|refine TN ?_|refine TM ?_|refine Af [(0,true),(1,true),(2,false),(3,true),(4,false),(5,false)] [1] GE ?_|with_reducible refine WF ?_)<;>intros)
end
end Go.Proofs.Z
namespace Go.Aw
theorem Mi {fs:List V} {k:List V->Prop} (h:k (fs++cs)):Fp (fs++([]++cs)) k:=Bh.2 h
end Go.Aw
namespace Go.Proofs.Z
open Go Go.Aw
theorem Dv.qd {A:Rd Nd} (h:Dv A):Rd.AR A:=λs n s' e=>by
 have U:=h.size e
 have h2:=size_pos n
 omega
def DI (starts:Tk->Bool) (item:List Nd->Rd Nd) (f:Bool) (l:List Nd):Rd (Sum (List Nd) (List Nd)):=.seq Ci λ_=>.look λs=>.seq (Dg f (!starts (Ab s).1)) λe=>
 if e=true then .ret (.inr l) else .seq (item l) λn=>.look λs=>.seq (Dg f (!CG (Ab s).1)) λe=>if e=true then .ret (.inr (l++[n])) else .ret (.inl (l++[n]))
def L6 (starts:Tk->Bool) (item:List Nd->Rd Nd):Rd Nd:=.look λs=>if ((Ab s).1.kind==18)=true then .seq DG λ_=>.seq (.loop (DI starts item false) []) λl=>.ret (BB false l)
 else .seq (Bc 15 [123]) λ_=>.seq (.loop (DI starts item true) []) λl=>.ret (BB true l)
theorem VC {st:St} {Q:β->Ad->Prop} {body:σ->Rd (Sum σ β)} {x0:σ} (base:σ->St)
 (f:σ->AJ->List (Nat×V)) (g:σ->AJ->List (Nat×List V)) (keep kb:List Nat) (rw:σ->AJ->List (AJ×List Nd)) (wt:σ->Nat) (U:AJ) (hc:Cx (base x0) b s st (rw x0 U)) (h:Rd.wp (Rd.loop body x0) s Q E) (hl:wt x0+4*mu s<=500000000)
 (he:(env.OI (f x0 U) (g x0 U) keep kb).Ff env)
 (hb:∀x s1 st1 own1,Cx (base x) b s1 st1 (rw x own1)->Rd.wp (body x) s1 (Rd.again body s1 Q E) E->wt x+4*mu s1<=500000000->mu s1<=mu s->
   ih (B4 (λenv' st'=>∃y:LS σ,(Cx (base y.x) b y.s y.m (rw y.x y.o)/\Rd.wp (Rd.loop body y.x) y.s Q E/\wt y.x+4*mu y.s<=500000000/\mu y.s<=mu s)/\mu y.s<mu s1/\(env.OI (f y.x y.o) (g y.x y.o) keep kb).Ff env'/\St.le y.m st') Q0)
    (env.OI (f x own1) (g x own1) keep kb) st1):
 ∃(α:Type) (E:α->Env) (S:α->St) (J:α->Prop) (μ:α->Nat) (x0:α),J x0/\(E x0).Ff env/\St.le (S x0) st/\
  ∀x,J x->ih (B4 (λenv' st'=>∃y,J y/\μ y<μ x/\(E y).Ff env'/\St.le (S y) st') Q0) (E x) (S x):=
 ⟨LS σ,λy=>env.OI (f y.x y.o) (g y.x y.o) keep kb,λy=>y.m,
   λy=>Cx (base y.x) b y.s y.m (rw y.x y.o)/\Rd.wp (Rd.loop body y.x) y.s Q E/\wt y.x+4*mu y.s<=500000000/\mu y.s<=mu s,λy=>mu y.s,⟨x0,s,st,U⟩,⟨hc,h,hl,Nat.le_refl _⟩,he,St.le_refl _,
   λy ⟨j1,j2,j3,j4⟩=>hb y.x y.s y.m y.o j1 (by rw [<-Rd.wp_loop];exact j2) j3 j4⟩
section
variable {st0 st:St} {b d:Nat} {s:Ad} {rows:List (AJ×List Nd)} {K:AA->St->Prop} {L:EX}
attribute [local irreducible] Go.Aw.Ah
theorem ZX (hb:s.CF.length<=500000000) (h:K (.ret (.Bz [DJ (C0 s).1,.bool (C0 s).2])) st):PC 206 [DJ s] st K:=by
 refine pB Tryz.func206 ?_
 have h0:¬FJ s=0->s.CF≠[]:=λe e2=>e (by unfold FJ;rw [e2];rfl)
 unfold C0 at h
 by_cases U:K1 s=true
 .by_cases hw:s.wait=1
  .rw [if_neg AC] at h
   repeat' ((conv=>whnf);(first|refine A6 ?_|refine A7 ?_ ?_|refine A8 ?_ ?_|refine VF ?_|refine On ?_)<;>intros)
   all_goals first|exact BJ rfl h|(rw [U] at *;simp at *)
  .by_cases ht:FJ s=0
   .rw [if_neg AC] at h
    repeat' ((conv=>whnf);(first|refine A6 ?_|refine A7 ?_ ?_|refine A8 ?_ ?_|refine VF ?_|refine On ?_)<;>intros)
    all_goals first|exact BJ rfl h|(rw [U] at *;simp at *)
   .rw [if_pos ⟨U,hw,ht⟩] at h
    repeat' ((conv=>whnf);(first|refine A6 ?_|refine A7 ?_ ?_|refine A8 ?_ ?_|refine VF ?_|refine On ?_|refine L8 (h0 ht) hb ?_)<;>intros)
    all_goals first|exact BJ rfl h|(rw [U] at *;simp at *)
 .rw [if_neg (by simp [U])] at h
  repeat' ((conv=>whnf);(first|refine A6 ?_|refine A7 ?_ ?_|refine A8 ?_ ?_|refine VF ?_|refine On ?_)<;>intros)
  all_goals first|exact BJ rfl h|exact absurd ‹_› U
def bv (x:Bool):V:=.bool x
theorem gQ {f m:Bool}:AV bv 141 (λb=>[.ptr b 0,.bool f,.bool m]) (Dg f m):=by
 refine ⟨λ{st0 b s st rows K} hc h=>?_⟩
 simp only [Dg,Rd.Al,Rd.AD,Rd.wp_seq,Rd.wp_ret] at h
 have U:=hc.look
 refine pB Tryz.func141 ?_
 have hcl:Rd.wp PG s (λ_ s'=>∀st',Cx st0 b s' st' rows->K (.ret (.bool true)) st') (λe s'=>∀st',Cy st0 b s' st' rows->K (.B0 (fault e.1)) st')->if (C0 s).2=true then mu (C0 s).1<=mu s/\∀st',Cx st0 b (C0 s).1 st' rows->K (.ret (.bool true)) st'
  else Rd.wp (IG:Rd Unit) s (λ_ s'=>∀st',Cx st0 b s' st' rows->K (.ret (.bool true)) st') (λe s'=>∀st',Cy st0 b s' st' rows->K (.B0 (fault e.1)) st'):=λh=>by
  unfold PG Rd.wp at h
  dsimp only at h
  split
  .rename_i e;rw [if_pos e] at h;exact ⟨Na e,h⟩
  .rename_i e;rw [if_neg e] at h;exact h
 have hmu:=hc.mu
 cases f
 .simp only [Bool.false_eq_true,if_false] at h
  cases m
  .simp only [Bool.false_eq_true,if_false] at h
   repeat' ((conv=>whnf);(first|refine A6 ?_|refine A7 ?_ ?_|refine A8 ?_ ?_|refine Gn hc.has hc.hb ?_|refine KO U ‹_› AC ?_|exact C6 U ‹_› rfl|refine HH ?_|refine fv ?_|exact Fh|refine Ac ?_)<;>intros)
  .simp only [if_true] at h
   repeat' ((conv=>whnf);first|refine UO (hcl h) (λe h=>?_) (λe h=>?_)|(refine A6 ?_;intros)|(refine A7 ?_ ?_<;>intro e h)|(refine A8 ?_ ?_<;>intro _)|refine Gn hc.has hc.hb ?_|refine KO U h AC (λs1 st1 hz hm hc h=>?_)|refine Au (St.Ai ..) ?_|refine ZX hc.hb ?_|refine tz U AC (λst1 hc=>?_)|exact C6 hc h.2 rfl|refine RL U h (λe s1 st1 hc h=>?_)|(refine HH ?_;intro st1 hc)|(refine fv ?_;intro e s1 st1 hc h)|exact Fh|refine Ac (λe1=>?_))
 .simp only [if_true] at h
  by_cases hi:AU s 15 [125]=true
  .rw [if_pos hi] at h
   obtain ⟨h1,h2⟩:(Ab s).1.kind=15/\(Ab s).1.text=[125]:=by
    unfold AU at hi
    simp only [Bool.and_eq_true,beq_iff_eq] at hi
    exact hi
   repeat' ((conv=>whnf);(first|refine A6 ?_|refine A7 ?_ ?_|refine A8 ?_ ?_|refine Gn hc.has hc.hb ?_|refine KO U ‹_› AC ?_|refine HH ?_|refine fv ?_|exact Fh|refine Ac ?_)<;>intros)
  .rw [if_neg hi] at h
   have hx:(Ab s).1.kind=15->¬(Ab s).1.text=[125]:=λh1 h2=>hi (by unfold AU;rw [h1,h2];rfl)
   cases m
   .simp only [Bool.false_eq_true,if_false] at h
    repeat' ((conv=>whnf);(first|refine fJ (beq_eq_false_iff_ne.2 (hx ‹_›)) ?_|refine A6 ?_|refine A7 ?_ ?_|refine A8 ?_ ?_|refine Gn hc.has hc.hb ?_|exact C6 U ‹_› rfl|refine HH ?_|refine fv ?_|exact Fh|refine Ac ?_)<;>intros)
   .simp only [if_true] at h
    repeat' ((conv=>whnf);(first|refine fJ (beq_eq_false_iff_ne.2 (hx ‹_›)) ?_|refine A6 ?_|refine A7 ?_ ?_|refine A8 ?_ ?_|refine Gn hc.has hc.hb ?_|refine Au (St.Ai ..) ?_|refine ZX hc.hb ?_|refine RL U ‹_› ?_|refine HH ?_|refine fv ?_|exact Fh|refine Ac ?_)<;>intros)
theorem OP {f m U:Bool} (e:U=m):AV bv 141 (λb=>[.ptr b 0,.bool f,.bool m]) (Dg f U):=by rw [e];exact gQ
theorem qn {b:Bool} (h:b=true):(!b)=false:=by rw [h];rfl
theorem qm {b:Bool} (h:b=false):(!b)=true:=by rw [h];rfl
theorem P5 {own:AJ}:AA.ret (enc (BB false l))=(AA.ret (.agg [.int .i64 2,.int .i64 0,.str [],.int .i64 0,.int .i64 0,.slice 6 (l.map AP) own])).wk:=by unfold BB;rw [gO];rfl
theorem P6 {own:AJ}:AA.ret (enc (BB true l))=(AA.ret (.agg [.int .i64 2,.int .i64 1,.str [],.int .i64 0,.int .i64 0,.slice 6 (l.map AP) own])).wk:=by unfold BB;rw [gO];rfl
def sZ (base:List Nd->St) (st0:St) (b:Nat) (i:FuncId) (cs:List V) (item:List Nd->Rd Nd):Prop:=∀(l:List Nd) (s:Ad) (st:St) (rows:List (AJ×List Nd)) (K:AA->St->Prop) (Q:Nd->Ad->Prop) (E:Er->Ad->Prop),Cx (base l) b s st rows->Rd.wp (item l) s Q E->
 (∀n s1 U,mu s1<mu s->Cx (base (l++[n])) b s1 U rows->Q n s1->K (.ret (enc n)) U)->(∀e s1 U,Cy st0 b s1 U rows->E e s1->K (.B0 (fault e.1)) U)->PC i cs st K
theorem RN {i:FuncId} {fs:List V} {starts:Tk->Bool} {base:List Nd->St} {item:List Nd->Rd Nd} (hg:∀{t:Tk} {st:St} {K:AA->St->Prop},K (.ret (.bool (starts t))) st->PC g [Fl t] st K)
 (hi:sZ base st0 b i (fs++cs) item) (hx:∀{l s st rows},Cy (base l) b s st rows->Cy st0 b s st rows) (hc:Cx (base []) b s st rows)
 (h:Rd.wp (L6 starts item) s (λn s'=>∀l st',Cx (base l) b s' st' rows->K (.ret (enc n)) st') (λe s'=>∀st',Cy st0 b s' st' rows->K (.B0 (fault e.1)) st')):
 PC 69 [.ptr b 0,.func g [] [],.func i fs cs] st K:=by
 simp only [L6,Rd.Al,Rd.AD,Rd.wp_seq,Rd.wp_ret] at h
 have hmu:=hc.mu
 refine pB Tryz.func69 ?_
 repeat' ((conv=>whnf);first|exact CU|(refine A6 ?_;intros)|(refine CV ?_ ?_ ?_;rotate_left)|(refine A7 ?_ ?_<;>intro e h)|(refine A8 ?_ ?_<;>intro _)|(refine HH ?_;intro U hc)|(refine IE ?_ ?_<;>(first|intro n s1 U hr hm hc h|intro e s1 U hc h))|exact Fh|(refine K6 ?_;intro own1 U hc)|refine Ac (λe1=>?_)|refine KO hc h AC (λs1 U hz hm hc h=>?_)|exact BP (hx hc) h|refine Af [(0,true),(1,true),(2,true),(3,true),(4,true),(5,true),(6,false),(7,false),(8,true),(9,false)] [] GE ?_|refine Af [(0,true),(1,true),(2,true),(3,false),(4,true),(5,false),(6,true),(7,false)] [1] GE ?_|refine Af [(0,true),(1,true),(2,true),(3,true),(4,true),(5,false),(6,false),(7,true),(8,false)] [] GE ?_|with_reducible refine WF ?_)
 .refine VC base (λl own=>[]) (λl own=>[(1,[.int .i64 2,.int .i64 0,.str [],.int .i64 0,.int .i64 0,.slice 6 (l.map AP) own])]) [0,1,2,6,7] [0] (λl own=>(own,l)::rows) (λl=>l.length) .full (hc.push []) h ke Yl ?_
  intro l s1 U own1 hc h hl hm1
  simp only [DI,Rd.Al,Rd.AD,Rd.wp_seq,Rd.wp_ret,Rd.Br] at h
  repeat' ((conv=>whnf);(first|exact CU|refine A6 ?_|(refine CV ?_ ?_ ?_;rotate_left)|refine A7 ?_ ?_|refine A8 ?_ ?_|with_reducible refine WF ?_)<;>intros)
  unfold Ci at h
  refine Cm (λ_ _=>[]) (λ_ _=>[]) [0,1,2,6,7] [0,1] (λ_ _=>(own1,l)::rows) (λ_=>l.length) .full ‹_› ‹_› hl Yl ?_
  intro u s2 st2 own2 hc h hl hm2
  simp only [Fz,Rd.Al,Rd.AD,Rd.wp_seq,Rd.wp_ret,Rd.Br] at h
  repeat' ((conv=>whnf);first|exact CU|(refine A6 ?_;intros)|(refine CV ?_ ?_ ?_;rotate_left)|(refine A7 ?_ ?_<;>intro e h)|(refine A8 ?_ ?_<;>intro _)|(refine HH ?_;intro U hc)|(refine IE ?_ ?_<;>(first|intro n s1 U hr hm hc h|intro e s1 U hc h))|exact Fh|(refine K6 ?_;intro own1 U hc)|refine Ac (λe1=>?_)|refine Ua ?_|refine hg ?_|refine KO hc h (HD ‹_›) (λs1 U hz hm hc h=>?_)|refine AV.go (OP (qn ‹_›)) hc h (λv s1 U hr hm hc h=>?_) (λe s1 U hc h=>?_)|refine AV.go (OP (qm ‹_›)) hc h (λv s1 U hr hm hc h=>?_) (λe s1 U hc h=>?_)|refine Mi ?_|refine hi _ _ _ _ _ _ _ hc h (λn s1 U hm hc h=>?_) (λe s1 U hc h=>?_)|exact BP (hx hc).drop h|exact BP (Cy.drop hc) h|exact C6 hc.drop (h l) P5|exact C6 hc.drop (h (l++[_])) P5|refine Af [(0,true),(1,true),(2,true),(3,true),(4,true),(5,true),(6,false),(7,false),(8,true),(9,false)] [] GE ?_|refine Af [(0,true),(1,true),(2,true),(3,false),(4,true),(5,false),(6,true),(7,false)] [1] GE ?_|refine Af [(0,true),(1,true),(2,true),(3,true),(4,true),(5,false),(6,false),(7,true),(8,false)] [] GE ?_|with_reducible refine WF ?_)
  all_goals conv=>whnf
  all_goals exact ⟨⟨(),_,_,.full⟩,⟨hc,Rd.EK h AC,bl,bl⟩,bl,Yl,St.le_refl _⟩
 .refine VC base (λl own=>[]) (λl own=>[(1,[.int .i64 2,.int .i64 1,.str [],.int .i64 0,.int .i64 0,.slice 6 (l.map AP) own])]) [0,1,2,6,7] [0] (λl own=>(own,l)::rows) (λl=>l.length) .full (hc.push []) h ke Yl ?_
  intro l s1 U own1 hc h hl hm1
  simp only [DI,Rd.Al,Rd.AD,Rd.wp_seq,Rd.wp_ret,Rd.Br] at h
  repeat' ((conv=>whnf);(first|exact CU|refine A6 ?_|(refine CV ?_ ?_ ?_;rotate_left)|refine A7 ?_ ?_|refine A8 ?_ ?_|with_reducible refine WF ?_)<;>intros)
  unfold Ci at h
  refine Cm (λ_ _=>[]) (λ_ _=>[]) [0,1,2,6,7] [0,1] (λ_ _=>(own1,l)::rows) (λ_=>l.length) .full ‹_› ‹_› hl Yl ?_
  intro u s2 st2 own2 hc h hl hm2
  simp only [Fz,Rd.Al,Rd.AD,Rd.wp_seq,Rd.wp_ret,Rd.Br] at h
  repeat' ((conv=>whnf);first|exact CU|(refine A6 ?_;intros)|(refine CV ?_ ?_ ?_;rotate_left)|(refine A7 ?_ ?_<;>intro e h)|(refine A8 ?_ ?_<;>intro _)|(refine HH ?_;intro U hc)|(refine IE ?_ ?_<;>(first|intro n s1 U hr hm hc h|intro e s1 U hc h))|exact Fh|(refine K6 ?_;intro own1 U hc)|refine Ac (λe1=>?_)|refine Ua ?_|refine hg ?_|refine KO hc h (HD ‹_›) (λs1 U hz hm hc h=>?_)|refine AV.go (OP (qn ‹_›)) hc h (λv s1 U hr hm hc h=>?_) (λe s1 U hc h=>?_)|refine AV.go (OP (qm ‹_›)) hc h (λv s1 U hr hm hc h=>?_) (λe s1 U hc h=>?_)|refine Mi ?_|refine hi _ _ _ _ _ _ _ hc h (λn s1 U hm hc h=>?_) (λe s1 U hc h=>?_)|exact BP (hx hc).drop h|exact BP (Cy.drop hc) h|exact C6 hc.drop (h l) P6|exact C6 hc.drop (h (l++[_])) P6|refine Af [(0,true),(1,true),(2,true),(3,true),(4,true),(5,true),(6,false),(7,false),(8,true),(9,false)] [] GE ?_|refine Af [(0,true),(1,true),(2,true),(3,false),(4,true),(5,false),(6,true),(7,false)] [1] GE ?_|refine Af [(0,true),(1,true),(2,true),(3,true),(4,true),(5,false),(6,false),(7,true),(8,false)] [] GE ?_|with_reducible refine WF ?_)
  all_goals conv=>whnf
  all_goals exact ⟨⟨(),_,_,.full⟩,⟨hc,Rd.EK h AC,bl,bl⟩,bl,Yl,St.le_refl _⟩
theorem PD {i:FuncId} {starts:Tk->Bool} {item:Rd Nd} (hg:∀{t:Tk} {st:St} {K:AA->St->Prop},K (.ret (.bool (starts t))) st->PC g [Fl t] st K) (hi:AV enc i (λb=>[pv b d]) item) (hF:Dv item):
 AV enc 69 (λb=>[.ptr b 0,.func g [] [],.func i [pv b d] []]) (Ds starts item):=
 ⟨λ{st0 b s st rows K} hc h=>RN (fs:=[pv b d]) (cs:=[]) (base:=λ_=>st0) (item:=λ_=>item) hg (λl s st rows K Q E hc h k kb=>hi.qf hF.qd hc h (λn s1 U _ hm hc q=>k n s1 U hm hc q) kb) (λh=>h) hc
   (Rd.wp_mono (show Rd.wp (L6 starts λ_=>item) s _ _ from h) (λ_ _ _ h _=>h) (λ_ _ _ h=>h))⟩
end
section
variable {st:St} {R:AA->St->Prop}
attribute [local irreducible] Go.Aw.Ah
theorem ZU {deep:Int} {q:Rs} (hq:¬deep<1->∀(b:Nat) (st5:St) (R:AA->St->Prop),st.le st5->Has st5 b s->EJ st5 b R q->PC f [.ptr b 0,.int .i64 (if 100<deep then 100 else deep),.ptr c 0] st5 R) (h:R (.ret (NZ (B8 s deep q))) st):PC 67 [DJ s,.int .i64 deep,.func f [] [.ptr c 0]] st R:=by
 refine A9.ends (MD Ae [6,7,8,9,12] Tryz.func67 rfl Do rfl rfl rfl rfl rfl rfl ⟨_,Tryz.func138,rfl,Do⟩ rfl ?_)
 repeat' ((conv=>whnf);first|exact CU|(refine A6 ?_;intros)|(refine CV ?_ ?_ ?_;rotate_left)|(refine A7 ?_ ?_<;>intro e h)|(refine A8 ?_ ?_<;>intro _)|refine aM (λb5 f5=>?_)|refine Au (St.Ai ..) ?_|with_reducible refine WF ?_)
 rename_i b1 f1 b2 f2 b3 f3 b4 f4
 obtain ⟨n12,f2a⟩:=B2 f2
 obtain ⟨n23,f3a⟩:=B2 f3
 obtain ⟨n13,f3b⟩:=B2 f3a
 obtain ⟨n34,f4a⟩:=B2 f4
 obtain ⟨n24,f4b⟩:=B2 f4a
 obtain ⟨n14,f4c⟩:=B2 f4b
 obtain ⟨n45,f5a⟩:=B2 f5
 obtain ⟨n35,f5b⟩:=B2 f5a
 obtain ⟨n25,f5c⟩:=B2 f5b
 obtain ⟨n15,f5d⟩:=B2 f5c
 conv=>whnf
 refine ⟨rfl,AQ rfl ?_⟩
 generalize hst5:St.Aa _ b5 [V.ptr b4 0]=st5
 have k1:st5.box b1=some DB:=by subst hst5;rw [St.As n15.symm,St.As n15.symm,St.As n14.symm,St.As n13.symm,St.As n12.symm,St.Ai];rfl
 have k2:st5.box b2=some [.slice 4 (Az EV.Ag) .full,.int .i64 EV.pos,.slice 1 (ints EV.CF) .full,.int .i64 EV.wait]:=by subst hst5;rw [St.As n25.symm,St.As n25.symm,St.As n24.symm,St.As n23.symm,St.Ai];rfl
 have k3:st5.box b3=some [.int .i64 0]:=by subst hst5;rw [St.As n35.symm,St.As n35.symm,St.As n34.symm,St.Ai]
 have k4:Has st5 b4 s:=by subst hst5;refine .inr ⟨Xu,EV,.full,.full,0,?_⟩;rw [St.As n45.symm,St.As n45.symm,St.Ai];rfl
 have k5:st5.box b5=some [.ptr b4 0]:=by subst hst5;rw [St.Ai]
 have kle:st.le st5:=by
  subst hst5
  exact St.Ar (St.Ar (St.Ar (St.Ar (St.Ar (St.Ar (St.le_refl _) f1.1 _) f2a.1 _) f3b.1 _) f4c.1 _) f5d.1 _) f5d.1 _
 have kpan:∀(U:St) (e:Int) (s':Ad),Ho st5 U b4 s'->U.box b5=some [.ptr b4 0]/\U.box b1=some DB/\U.box b2=some [.slice 4 (Az EV.Ag) .full,.int .i64 EV.pos,.slice 1 (ints EV.CF) .full,.int .i64 EV.wait]/\U.box b3=some [.int .i64 0]/\st.le U:=by
  rintro U e s' ⟨_,cs,rfl⟩
  exact ⟨by rw [St.As n45];exact k5,by rw [St.As n14.symm];exact k1,by rw [St.As n24.symm];exact k2,by rw [St.As n34.symm];exact k3,St.Ar kle f4c.1 _⟩
 clear hst5 f2 f3 f4 f5 f3a f4a f4b f5a f5b f5c
 refine Ak (An Ae ?_)
 repeat' ((conv=>whnf);(first|exact CU|refine A6 ?_|(refine CV ?_ ?_ ?_;rotate_left)|refine A7 ?_ ?_|refine A8 ?_ ?_|refine Au k5 ?_|refine Cd ?_|with_reducible refine WF ?_)<;>intros)
 .refine IJ (n0:=Hz) (s0:=EV) k5 k4 k1 k2 k3 n15 n14 n12 n13 n25 n24 n23 ?_
  have g1:(((st5.Aa b1 DB).Aa b2 s.cells).Aa b3 [.int .i64 2]).box b1=some DB:=by rw [St.As n13.symm,St.As n12.symm,St.Ai]
  have g2:(((st5.Aa b1 DB).Aa b2 s.cells).Aa b3 [.int .i64 2]).box b2=some s.cells:=by rw [St.As n23.symm,St.Ai]
  have gl:st.le (((st5.Aa b1 DB).Aa b2 s.cells).Aa b3 [.int .i64 2]):=St.Ar (St.Ar (St.Ar kle f1.1 _) f2a.1 _) f3b.1 _
  unfold B8 at h
  rw [if_pos ‹_›] at h
  repeat' ((conv=>whnf);(first|exact CU|refine A6 ?_|(refine CV ?_ ?_ ?_;rotate_left)|refine A7 ?_ ?_|refine A8 ?_ ?_|refine Au g1 ?_|refine Au g2 ?_|refine Au (St.Ai ..) ?_|with_reducible refine WF ?_)<;>intros)
  all_goals exact EH gl rfl h
 .rename_i hd
  unfold B8 at h
  rw [if_neg hd] at h
  have hq:=λst5 R h=>hq hd b4 st5 R h
  refine Ak (An Ae ?_)
  cases q with
  |inl q=>
   obtain ⟨e,s'⟩:=q
   repeat' ((conv=>whnf);first|exact CU|(refine A6 ?_;intros)|(refine CV ?_ ?_ ?_;rotate_left)|(refine A7 ?_ ?_<;>intro e h)|(refine A8 ?_ ?_<;>intro _)|refine Au k5 ?_|refine ⟨_,rfl,?_⟩|refine hq _ _ kle k4 (λU hu=>?_)|with_reducible refine WF ?_)
   obtain ⟨j5,j1,j2,j3,jle⟩:=kpan U e s' hu
   refine IJ (n0:=Hz) (s0:=EV) j5 hu.1 j1 j2 j3 n15 n14 n12 n13 n25 n24 n23 ?_
   have g1:(((U.Aa b1 DB).Aa b2 s'.cells).Aa b3 [.int .i64 e]).box b1=some DB:=by rw [St.As n13.symm,St.As n12.symm,St.Ai]
   have g2:(((U.Aa b1 DB).Aa b2 s'.cells).Aa b3 [.int .i64 e]).box b2=some s'.cells:=by rw [St.As n23.symm,St.Ai]
   have gl:st.le (((U.Aa b1 DB).Aa b2 s'.cells).Aa b3 [.int .i64 e]):=St.Ar (St.Ar (St.Ar jle f1.1 _) f2a.1 _) f3b.1 _
   repeat' ((conv=>whnf);(first|exact CU|refine A6 ?_|(refine CV ?_ ?_ ?_;rotate_left)|refine A7 ?_ ?_|refine A8 ?_ ?_|refine Au g1 ?_|refine Au g2 ?_|refine Au (St.Ai ..) ?_|with_reducible refine WF ?_)<;>intros)
   all_goals exact EH gl rfl h
  |inr q=>
   obtain ⟨n,s'⟩:=q
   have kret:=λU hu=>kpan U 0 s' hu
   repeat' ((conv=>whnf);first|exact CU|(refine A6 ?_;intros)|(refine CV ?_ ?_ ?_;rotate_left)|(refine A7 ?_ ?_<;>intro e h)|(refine A8 ?_ ?_<;>intro _)|refine Au k5 ?_|refine ⟨_,rfl,?_⟩|refine hq _ _ kle k4 (λU hu=>?_)|refine Au (kret U hu).2.1 ?_|with_reducible refine WF ?_)
   obtain ⟨j5,j1,j2,j3,jle⟩:=kret U hu
   generalize hst7:U.Aa b1 (AP n)=st7
   have i1:st7.box b1=some (AP n):=by subst hst7;rw [St.Ai]
   have i5:st7.box b5=some [.ptr b4 0]:=by subst hst7;rw [St.As n15];exact j5
   have i2:st7.box b2=some [.slice 4 (Az EV.Ag) .full,.int .i64 EV.pos,.slice 1 (ints EV.CF) .full,.int .i64 EV.wait]:=by subst hst7;rw [St.As n12];exact j2
   have i3:(st7.Aa b2 s'.cells).box b3=some [.int .i64 0]:=by subst hst7;rw [St.As n23,St.As n13];exact j3
   have i4:Has st7 b4 s':=by
    subst hst7
    rcases hu.1 with e|⟨t,u,o1,o2,e',e⟩
    .exact .inl (by rw [St.As n14];exact e)
    .exact .inr ⟨t,u,o1,o2,e',by rw [St.As n14];exact e⟩
   have ile:st.le st7:=by subst hst7;exact St.Ar jle f1.1 _
   refine Ak (X1 Ae (Cb _) (λbs=>fV bs b1 b2 b3 b4 b5 (AP n) s'.cells) (fX st7 b2 b3 s'.cells) OL GE Yl (by rw [<-hst7];exact St.le_refl _) ?_ ?_)
   .skip
    unfold OL
    rcases i4 with i4|⟨t,u,q1,q2,q3,i4⟩
    all_goals repeat' (first|refine List.forall_mem_cons.2 ⟨?_,?_⟩|exact λ_ h=>nomatch h)
    repeat' ((conv=>whnf);(first|exact CU|refine A6 ?_|(refine CV ?_ ?_ ?_;rotate_left)|refine A7 ?_ ?_|refine A8 ?_ ?_|refine Au i5 ?_|refine Au i1 ?_|refine Au i4 ?_|refine Au i2 ?_|refine Au i3 ?_|with_reducible refine WF ?_)<;>intros)
    all_goals conv=>whnf
    all_goals (refine ⟨Yl,?_⟩)
    all_goals first|exact St.le_refl _|exact aB i1
   .refine An Ae (PH (bp:=b5) ?_)
    have g1:((st7.Aa b2 s'.cells).Aa b3 [.int .i64 0]).box b1=some (AP n):=by rw [St.As n13.symm,St.As n12.symm];exact i1
    have g2:((st7.Aa b2 s'.cells).Aa b3 [.int .i64 0]).box b2=some s'.cells:=by rw [St.As n23.symm,St.Ai]
    have gl:st.le ((st7.Aa b2 s'.cells).Aa b3 [.int .i64 0]):=St.Ar (St.Ar ile f2a.1 _) f3b.1 _
    repeat' ((conv=>whnf);(first|exact CU|refine A6 ?_|(refine CV ?_ ?_ ?_;rotate_left)|refine A7 ?_ ?_|refine A8 ?_ ?_|refine Au g1 ?_|refine Au g2 ?_|refine Au (St.Ai ..) ?_|with_reducible refine WF ?_)<;>intros)
    all_goals exact EH gl rfl h
end
def Dy (A:Rd Nd) (s:Ad):Rs:=match A.run s with
 | .inl p=>.inl (p.1.1,p.2)
 | .inr p=>.inr p
section
variable {st0 st:St} {b c d:Nat} {s:Ad} {K R:AA->St->Prop}
theorem Cx.uc (h:Has st' b s') (hr:∃cs,Rx (st.Aa b cs) st' []):∃U,Ho st U b s'/\St.le U st':=by
 obtain ⟨cs,hr⟩:=hr
 have hb:=hr.le.1 b cs (St.Ai ..)
 refine ⟨st.Aa b cs,⟨?_,cs,rfl⟩,hr.le⟩
 rcases h with e|⟨t,u,o1,o2,e0,e⟩
 .rw [hb] at e;injection e with e;subst e;exact .inl (St.Ai ..)
 .rw [hb] at e;injection e with e;subst e;exact .inr ⟨t,u,o1,o2,e0,St.Ai ..⟩
theorem Xq {A:Rd Nd} (hf:AV enc f mk A) (hs:Has st b s) (hm:mu s<=100000000) (ht:EJ st b K (Dy A s)):PC f (mk b) st K:=by
 refine A9.ends (hf.ap (Cx.start hs hm) (Rd.XK (λv s' e st' hc=>?_) (λe s' he st' hc=>?_)))
 .unfold Dy at ht
  rw [e] at ht
  obtain ⟨U,hu,hl⟩:=Cx.uc hc.has hc.rx
  exact ⟨_,U,.inl rfl,hl,ht U hu⟩
 .unfold Dy at ht
  rw [he] at ht
  obtain ⟨U,hu,hl⟩:=Cx.uc hc.has hc.rx
  exact ⟨_,U,.inl rfl,hl,ht U hu⟩
theorem sy {A:Rd Nd} (hA:AV enc g (λb=>[pv b d]) A) (hx:st.box c=some [.func g [] []]) (hs:Has st b s) (hm:mu s<=100000000) (ht:EJ st b K (Dy A s)):PC 210 [.ptr b 0,.int .i64 (d:Int),.ptr c 0] st K:=by
 have U:∀{K:AA->St->Prop},EJ st b K (Dy A s)->PC g [pv b d] st K:=λh=>Xq hA hs hm h
 refine pB Tryz.func210 ?_
 unfold Dy at *
 cases hr:A.run s with
 |inl p=>
  rw [hr] at ht U
  repeat' ((conv=>whnf);first|(refine A6 ?_;intros)|(refine A7 ?_ ?_<;>intro e h)|(refine A8 ?_ ?_<;>intro _)|refine Au hx ?_|refine U (λst1 hu=>?_))
  all_goals exact ⟨_,_,.inl rfl,St.le_refl _,ht _ hu⟩
 |inr p=>
  rw [hr] at ht U
  repeat' ((conv=>whnf);first|(refine A6 ?_;intros)|(refine A7 ?_ ?_<;>intro e h)|(refine A8 ?_ ?_<;>intro _)|refine Au hx ?_|refine U (λst1 hu=>?_))
  all_goals exact BJ rfl (ht _ hu)
theorem gU {deep:Int} {A:Nat->Rd Nd} (hA:∀d:Nat,1<=d->d<=100->AV enc g (λb=>[pv b d]) (A d)) (hm:mu s<=100000000) (h:K (.ret (NZ (B8 s deep (Dy (A (Dt deep)) s)))) st):
 PC 154 [DJ s,.int .i64 deep,.func g [] []] st K:=by
 refine A5 Ae [] Tryz.func154 rfl Do rfl ?_
 refine Ak (An Ae ?_)
 repeat' ((conv=>whnf);(first|refine A6 ?_|refine A7 ?_ ?_|refine A8 ?_ ?_|fail)<;>intros)
 refine Lj 5 1 rfl rfl rfl (λc fc=>?_)
 refine An Ae ?_
 have hq:¬deep<1->∀(b:Nat) (U:St) (R:AA->St->Prop),(st.Aa c [.func g [] []]).le U->Has U b s->EJ U b R (Dy (A (Dt deep)) s)->PC 210 [.ptr b 0,.int .i64 (if 100<deep then 100 else deep),.ptr c 0] U R:=λhd b U R hle hs ht=>by
  have e:(if 100<deep then 100 else deep)=((Dt deep:Nat):Int):=by unfold Dt;split<;>omega
  rw [e]
  exact sy (hA _ (by unfold Dt;split<;>omega) (by unfold Dt;split<;>omega)) (hle.1 _ _ (St.Ai ..)) hs hm ht
 obtain ⟨n,s',e,hq3⟩:∃n s' e,B8 s deep (Dy (A (Dt deep)) s)=(n,s',e):=⟨_,_,_,rfl⟩
 rw [hq3] at h
 have hcat:∀{K:AA->St->Prop},K (.ret (NY n s' e)) (st.Aa c [.func g [] []])->PC 67 [DJ s,.int .i64 deep,.func 210 [] [.ptr c 0]] (st.Aa c [.func g [] []]) K:=λk=>ZU (s:=s) (q:=Dy (A (Dt deep)) s) hq (by rw [hq3];exact k)
 repeat' ((conv=>whnf);(first|refine A6 ?_|refine A7 ?_ ?_|refine A8 ?_ ?_|refine hcat ?_)<;>intros)
 all_goals exact EH (St.Ar (St.le_refl _) fc.1 _) rfl h
end
section
variable {d:Nat}
theorem gv {st:St} (h:K (.ret (.bool (EF t))) st):PC 361 [Fl t] st K:=by
 refine pB Tryz.func361 ?_
 repeat' ((conv=>whnf);(first|refine A6 ?_|refine A7 ?_ ?_|refine A8 ?_ ?_|refine L1 ?_|refine Ts ?_)<;>intros)
 all_goals conv=>whnf
 all_goals (refine At h ?_;clear h;simp_all [EF])
theorem cn {item:Rd Nd} (hi:AV enc 155 (λb=>[pv b d]) item) (U:Dv item):AV enc 295 (λb=>[pv b d]) (Ds EF item):=by
 refine ⟨λ{st0 b s st rows K} hc h=>?_⟩
 refine pB Tryz.func295 ?_
 repeat' ((conv=>whnf);(first|refine A6 ?_|refine A7 ?_ ?_|refine A8 ?_ ?_|exact Fh|refine Ac ?_|refine FG.go (by first|exact AV.q|exact (PD (λh=>gv ‹_›) hi U).a) ?_ ?_)<;>intros)
theorem cp {item:Rd Nd} (hi:AV enc 360 (λb=>[pv b d]) item) (U:Dv item):AV enc 416 (λb=>[pv b d]) (Ds Cw item):=by
 refine ⟨λ{st0 b s st rows K} hc h=>?_⟩
 refine pB Tryz.func416 ?_
 repeat' ((conv=>whnf);(first|refine A6 ?_|refine A7 ?_ ?_|refine A8 ?_ ?_|exact Fh|refine Ac ?_|refine FG.go (by first|exact AV.q|exact (PD (λh=>L1 ‹_›) hi U).a) ?_ ?_)<;>intros)
theorem fO {item:Rd Nd} (hi:AV enc 415 (λb=>[pv b d]) item) (U:Dv item):AV enc 391 (λb=>[pv b d]) (Ds Cw item):=by
 refine ⟨λ{st0 b s st rows K} hc h=>?_⟩
 refine pB Tryz.func391 ?_
 repeat' ((conv=>whnf);(first|refine A6 ?_|refine A7 ?_ ?_|refine A8 ?_ ?_|exact Fh|refine Ac ?_|refine FG.go (by first|exact AV.q|exact (PD (λh=>L1 ‹_›) hi U).a) ?_ ?_)<;>intros)
structure uS (D:Nat) (full:Rd Nd) (L:EX):Prop where
 atom:AV enc 288 (λb=>[pv b D]) (p6 L)
 exp:AV enc 292 (λb=>[pv b D]) (PX full L)
 ops:AV enc 212 (λb=>[pv b D]) (opsL L)
 stmt:AV enc 360 (λb=>[pv b D]) (MQ full L)
 alt:AV enc 415 (λb=>[pv b D]) (me full L)
 decl:AV enc 155 (λb=>[pv b D]) (FK full L)
 decls:AV enc 295 (λb=>[pv b D]) (Ds EF (FK full L))
 stmts:AV enc 416 (λb=>[pv b D]) (Ds Cw (MQ full L))
 alts:AV enc 391 (λb=>[pv b D]) (Ds Cw (me full L))
 DT:∀o,AV enc 419 (λb=>[pv b D,enc o]) (D8 (jB L) full (PX full L) o)
 list:∀o,AV enc 421 (λb=>[pv b D,enc o]) (N5 (PX full L) (MQ full L) o)
theorem uZ {full:Rd Nd} {L:EX} (hL:Lk d L) (hD:LR L) (hf:AV enc 289 (λb=>[pv b d]) full) (hF:Dv full):uS d full L:=by
 have atom:=mh hL
 have dat:=Mc hD
 have U:=YY hL atom U8
 have ops:=jD U
 have exp:=ru U hf
 have stmt:=pb hL exp
 have alt:=qT hL ops exp stmt
 have decl:=mK hL atom dat ops (PT (Nf hD)) exp stmt hf
 exact ⟨atom,exp,ops,stmt,alt,decl,cn decl (PR hF hD),cp stmt (JX hF hD),fO alt (Z3 hF hD),λo=>S6 U hf exp,λo=>n8 exp stmt⟩
theorem tH:∀d,d<=100->Lk (d+1) (JL d)
 |0,_=>⟨DU AC (λ_=>rfl) (λh=>absurd rfl h),DU AC (λ_=>rfl) (λh=>absurd rfl h),DU AC (λ_=>rfl) (λh=>absurd rfl h),DU AC (λ_=>rfl) (λh=>absurd rfl h),
   DU AC (λ_=>rfl) (λh=>absurd rfl h),DU AC (λ_=>rfl) (λh=>absurd rfl h),λU hc h=>OS AC (λ_=>rfl) hc h (λh=>absurd rfl h),λU hc h=>OS AC (λ_=>rfl) hc h (λh=>absurd rfl h)⟩
 |d+1,h=>by
  have l:=uZ (tH d AC) (Tm d) (ak (d:=d) AC) (Md _)
  have no:∀{p:Prop},d+1=0->p:=λe=>by cases e
  exact ⟨DU AC no λ_=>l.atom,DU AC no λ_=>l.exp,DU AC no λ_=>l.ops,DU AC no λ_=>l.decls,DU AC no λ_=>l.stmts,DU AC no λ_=>l.alts,
   λU hc h=>OS AC no hc h λ_ K h=>jU (l.DT _) U hc h,λU hc h=>OS AC no hc h λ_ K h=>dR (l.list _) U hc h⟩
theorem tF (U:1<=d) (h:d<=100):uS d (C7 d) (JL (d - 1)):=by
 obtain ⟨d,rfl⟩:∃e,d=e+1:=⟨d - 1,AC⟩
 exact uZ (tH d AC) (Tm d) (ak (d:=d) AC) (Md _)
def RV (d:Nat):Rd Nd:=FK (C7 d) (JL (d - 1))
def Tc (d:Nat):Rd Nd:=Ds EF (RV d)
end
section
variable {st:St} {K:AA->St->Prop} {s:Ad} {deep:Int}
theorem pT (hm:mu s<=100000000) (h:K (.ret (NZ (B8 s deep (Dy (RV (Dt deep)) s)))) st):PC 85 [DJ s,.int .i64 deep] st K:=by
 refine pB Tryz.func85 ?_
 repeat' ((conv=>whnf);(first|refine A6 ?_|refine A7 ?_ ?_|refine A8 ?_ ?_|refine gU (s:=s) (A:=RV) (λd U h1=>(tF U h1).decl) hm ?_)<;>intros)
 all_goals exact BJ rfl h
theorem lY (hm:mu s<=100000000) (h:K (.ret (NZ (B8 s deep (Dy (Tc (Dt deep)) s)))) st):PC 228 [DJ s,.int .i64 deep] st K:=by
 refine pB Tryz.func228 ?_
 repeat' ((conv=>whnf);(first|refine A6 ?_|refine A7 ?_ ?_|refine A8 ?_ ?_|refine gU (s:=s) (A:=Tc) (λd U h1=>(tF U h1).decls) hm ?_)<;>intros)
 all_goals exact BJ rfl h
end
end Go.Proofs.Z
namespace Go.Proofs.Z
open Go Go.Aw
open Rd (Ap)
def Td:Nat->Rd Nd
 |0=>.fail Hu
 |d+1=>Tc (d+1)
def Xw (d:Nat):Rd Nd:=Q8 (HV d) (MX d) (GN d) (C7 d) (RV d) (Td (d - 1))
def D1 (top:Rd Nd) (l:List Nd):Rd Nd:=.look λs0=>.seq top λn=>if ((n.kind==50)&&l.any λx=> !(x.kind==50))=true then .DL s0 G1 else .ret n
def CJ (top:Rd Nd):Rd Nd:=L6 Gt (D1 top)
def Dp (d:Nat):Rd Nd:=CJ (Xw d)
section
variable {s s0 s1:Ad} {A:Rd Nd} {l:List Nd}
theorem Lf.pass (h:Lf l s0 s) (k:Lf [] s s1):Lf l s0 s1:=by
 have:=Lf.app h k
 rwa [List.append_nil] at this
theorem Yo {A B C D E F:Rd Nd} (U:Rd.AR E):Rd.AR (Q8 A B C D E F):=Rd.AR.look λs v s' h=>by
 split at h
 .rename_i hk
  rw [beq_iff_eq] at hk
  have ht:∀{v:Nd} {s':Ad},Ay.run s=.inr (v,s')->mu s'<mu s:=λe=>Hf e AC
  (repeat' split at h)<;>first|exact Rd.AR.at (λ_ _ e=>ht e) h|exact U _ _ _ h
 .exact U _ _ _ h
theorem Yj (U:Rd.AR A) (l:List Nd):Rd.AR (D1 A l):=Rd.AR.look λs v s' h=>Rd.AR.at (λ_ _ e=>U _ _ _ e) h
theorem P1 (d:Nat):Rd.AR (Xw d):=Yo (PR (Md _) (Tm _)).qd
end
end Go.Proofs.Z
namespace Go.Aw
open Go
abbrev fw (ro:Option Nat):Fence:={Fence.wide with round:=ro}
section
variable {P:Program} {n:Nat} {ro:Option Nat}
theorem fU {args:Array Value} {w:World} {R:Ending->World->Prop} (h:Calls P f args w R):CallsIn (fw ro) n P f args w R:=callsIn_wide.2 h
theorem oG {row:String} {args:Array Value} {w:World} {R:Value->World->Prop} (h:Rows P row args w R):RowsIn (fw ro) n P row args w R:=λc cs _=>let ⟨v,w',r,s⟩:=h c cs;⟨v,w',r,stepsIn_wide.2 s⟩
theorem qp {o:Oper} {a:Act} {w:World} {next next':Act->World->Prop} {Q0 Q:Exit->Act->World->Prop} (nd:∀c,o.op≠.defer c) (h:o.wp P a w next Q0) (hn:∀a w,next a w->next' a w) (U:∀e a w,e≠.normal->Q0 e a w->Q e a w):o.wpIn (fw ro) n P a w next' Q:=by
 refine ⟨λ_ _=>trivial,?_⟩
 rw [Oper.semAt_eq _ _ _ nd]
 unfold Oper.wp at h
 generalize (execOp a.eval o).run P w=r at h
 cases r with
 |ok x w'=>
  cases x<;>simp only [Oper.upon] at h<;>simp only [Oper.uponIn]
  all_goals first
   |exact hn _ _ h
   |exact ⟨λe=>(by cases e),(fU h).mono λe w'' he=>by cases e<;>first|exact hn _ _ he|exact U _ _ _ GT he|exact he.imp λa he=>he.imp λw he=>U _ _ _ GT he⟩
   |exact ⟨λe=>(by cases e),(oG h).mono λv w'' he=>hn _ _ he⟩
 |halt x w'=>cases x<;>simp only [Oper.upon] at h<;>simp only [Oper.uponIn]<;>exact U _ _ _ GT h
theorem OT {ops:Array Oper} {Q0 Q:Exit->Act->World->Prop} (hl:¬LetsOut Q0) (hq:∀e a w,e≠.normal->Q0 e a w->Q e a w) {l2:List Oper} (hN:∀a w,Q0 .normal a w->wpListIn (fw ro) n P ops Q l2 a w):
 ∀(l1:List Oper) (a:Act) (w:World),(∀o ∈ l1,∀c,o.op≠.defer c)->wpList P ops Q0 l1 a w->wpListIn (fw ro) n P ops Q (l1++l2) a w
 |[],a,w,_,h=>hN a w h
 |o::r,a,w,nd,h=>by
  have ih:=OT hl hq hN r
  unfold wpList at h
  rw [List.cons_append]
  unfold wpListIn
  split
  .rename_i hw
   rw [if_pos hw] at h
   rcases h with h|h
   .exact qp (nd o List.mem_cons_self) h (λa w h=>ih a w (λo U=>nd o (List.mem_cons_of_mem _ U)) h) hq
   simp_all
  .rename_i hw
   rw [if_neg hw] at h
   exact ⟨λ_ _=>trivial,ih _ w (λo U=>nd o (List.mem_cons_of_mem _ U)) h⟩
theorem fy {ops:Array Oper} {md:Region.Mode} {Q0:Exit->Act->World->Prop} (hl:¬LetsOut Q0) (nd:∀o ∈ ops.toList,∀c,o.op≠.defer c):∀(fuel:Nat) (listed:Array Bool) (a:Act) (w:World),
 wpAny P md ops Q0 fuel listed a w->wpAnyIn (fw ro) n P md ops Q0 fuel listed a w
 |0,listed,a,w,h=>h
 |fuel+1,listed,a,w,h=>by
  have ih:=fy (md:=md) hl nd fuel
  refine ⟨h.1,λi hi=>?_⟩
  have U:=h.2 i hi
  unfold wpOp at U
  unfold wpOpIn
  split
  .simp_all
  .rename_i o ho
   rw [ho] at U
   dsimp only at U
   split
   .rename_i hw
    rw [if_pos hw] at U
    rcases U with U|U
    .exact qp (nd o (by grind)) U (λa w h=>ih _ a w h) (λ_ _ _ _ h=>h)
    simp_all
   .rename_i hw
    rw [if_neg hw] at U
    exact ⟨λ_ _=>trivial,ih _ _ _ U⟩
theorem Mq {D:List Deferred} {I0:Mem} {w0:World} {Q:AH->Env->St->Prop}:¬LetsOut (B6 D I0 st0 w0 Q):=by
 rintro ⟨a,w,I,β,env,st,U,_,h,_⟩
 cases U<;>exact h
end
def OY (l:List Oper):Bool:=l.all λo=>match o.op with| .defer _=>false|_=>true
theorem J7 {l:List Oper} (h:OY l=true):∀o ∈ l,∀c,o.op≠.defer c:=λo U c e=>by
 have:=List.all_eq_true.1 h o U
 simp_all
def F8:Code->Bool
 | .skip=>true
 | .region _ ops _=>OY ops.toList
 | .seq x y=>F8 x&&F8 y
 | .cond _ x y=>F8 x&&F8 y
 | .block _ c=>F8 c
 |_=>false
section
variable {P:Program} {T:List (Nat×Ty)}
def vh (P:Program) (ro:Option Nat) (c:Code) (Q:AH->Env->St->Prop) (env:Env) (st:St):Prop:=
 ∀n D I0 st0 w0 I β a w,Rel D I0 st0 w0 I β env st a w->c.wpIn (fw ro) n P (B6 D I0 st0 w0 Q) a w
theorem Lo (hP:SS P T) (ro:Option Nat):∀(c:Code) {Q:AH->Env->St->Prop} {env:Env} {st:St},F8 c=true->OJ T (A9 P) c Q env st->vh P ro c Q env st
 | .skip,Q,env,st,_,k=>λn D I0 st0 w0 I β a w h=>wpIn_skip ⟨I,β,env,st,.normal,h,trivial,k⟩
 | .region id ops true,Q,env,st,U,k=>λn D I0 st0 w0 I β a w h=>by
   have hC:=Cb P
   have hM:∀f args st (R R':AA->St->Prop),(∀r s,R r s->R' r s)->A9 P f args st R->A9 P f args st R':=λ_ _ _ _ _ h k=>k.mono h
   have k:(G8 env ops.toList ops.toList λk L=>(JW k ops.toList&&HT L)=true/\HO T (A9 P) ops.toList Q env env.boxes (Bg L env.boxes) ops.toList env st)\/∃(sched:List (Nat×Bool)) (L:List Nat),JE sched ops.toList=true/\Fv T (A9 P) ops.toList sched L (Bg (L.map some) env.boxes) Q sched env st:=k
   refine wpIn_region_any hP.m (fy Mq (J7 U) _ _ _ _ ?_)
   rcases k with k|⟨sched,L,k1,k2⟩
   .obtain ⟨h1,h2⟩:=IX.1 k
    have:=PN hP.t hC hM h1 h2 h
    omega
   .have:=Sd hP.t hC hM k1 k2 h
    omega
 | .region id ops false,Q,env,st,U,k=>λn D I0 st0 w0 I β a w h=>by
   have:=Fc hP.t (Cb P) h (show Eg T (A9 P) ops.toList Q ops.toList env st from k)
   have h2:=OT (ro:=ro) (n:=n) (l2:=[]) Mq (λ_ _ _ _ h=>h) (λa w h=>h) ops.toList a w (J7 U) (by simpa using this)
   rw [List.append_nil] at h2
   exact wpIn_region_list h2
 | .seq x y,Q,env,st,U,k=>λn D I0 st0 w0 I β a w h=>by
   simp only [F8,Bool.and_eq_true] at U
   refine wpIn_seq (wpIn_mono (Lo hP ro x U.1 (show OJ T (A9 P) x _ env st from k) n D I0 st0 w0 I β a w h) ?_)
   rintro e a w ⟨I,β,env,st,ae,h1,h2,h3⟩
   cases ae with
   |normal=>cases e<;>first|exact Lo hP ro y U.2 h3 n D I0 st0 w0 I β a w h1|exact h2.elim
   |exit i=>cases e<;>first|exact ⟨I,β,env,st,.exit i,h1,h2,h3⟩|exact h2.elim
   |goto i=>cases e<;>first|exact ⟨I,β,env,st,.goto i,h1,h2,h3⟩|exact h2.elim
   |ret=>cases e<;>first|exact ⟨I,β,env,st,.ret,h1,h2,h3⟩|exact h2.elim
   |B0 v=>cases e<;>first|exact ⟨I,β,env,st,.B0 v,h1,h2,h3⟩|exact h2.elim
 | .cond c x y,Q,env,st,U,k=>λn D I0 st0 w0 I β a w h=>by
   simp only [F8,Bool.and_eq_true] at U
   have hc:=h.f.eval c
   have k:(match env.eval c with
    | .bool t=>lit t (OJ T (A9 P) x Q env st) (OJ T (A9 P) y Q env st)
    |_=>False):=k
   split at k
   .rename_i t he
    rw [he] at hc
    have hc:=Kd hc
    cases t with
    |true=>exact wpIn_cond_true hc (Lo hP ro x U.1 (show OJ T (A9 P) x Q env st from k) n D I0 st0 w0 I β a w h)
    |false=>exact wpIn_cond_false hc (Lo hP ro y U.2 (show OJ T (A9 P) y Q env st from k) n D I0 st0 w0 I β a w h)
   simp_all
 | .block id c,Q,env,st,U,k=>λn D I0 st0 w0 I β a w h=>by
   refine wpIn_block (wpIn_mono (Lo hP ro c U (show OJ T (A9 P) c _ env st from k) n D I0 st0 w0 I β a w h) ?_)
   rintro e a w ⟨I,β,env,st,ae,h1,h2,h3⟩
   cases ae with
   |normal=>cases e<;>first|exact ⟨I,β,env,st,.normal,h1,trivial,h3⟩|exact h2.elim
   |exit i=>
    cases e<;>try exact h2.elim
    rename_i i'
    have h2:i'=i:=h2
    subst h2
    simp only [PB] at h3
    show (if i'=id then B6 D I0 st0 w0 Q .normal a w else B6 D I0 st0 w0 Q (.exit i') a w)
    by_cases hi:i'=id
    .subst hi
     rw [if_pos rfl]
     simp only [Nat.beq_refl,cond_true] at h3
     exact ⟨I,β,env,st,.normal,h1,trivial,h3⟩
    .rw [if_neg hi]
     have:Nat.beq i' id=false:=by
      cases hb:Nat.beq i' id with
      |false=>rfl
      |true=>simp_all
     rw [this] at h3
     exact ⟨I,β,env,st,.exit i',h1,rfl,h3⟩
   |goto i=>cases e<;>first|exact ⟨I,β,env,st,.goto i,h1,h2,h3⟩|exact h2.elim
   |ret=>cases e<;>first|exact ⟨I,β,env,st,.ret,h1,h2,h3⟩|exact h2.elim
   |B0 v=>cases e<;>first|exact ⟨I,β,env,st,.B0 v,h1,h2,h3⟩|exact h2.elim
 | .loop _,_,_,_,U,_| .exit _,_,_,_,U,_| .goto _,_,_,_,U,_| .label _,_,_,_,U,_| .ret,_,_,_,U,_| .rangeFunc ..,_,_,_,U,_| .scope _,_,_,_,U,_| .refuse _,_,_,_,U,_=>by cases U
end
section
variable {D:List Deferred} {P:Program} {T:List (Nat×Ty)} {I0 I:Mem} {st0 st:St} {w0 w:World} {β:Nat->Option Nat} {env:Env} {a:Act}
theorem ov {l:Nat} {o:Nat} {v:Value} (U:w.heap[l]? =some (.loop r)) (h:w.cell? ⟨b,o,none⟩=some v):b≠l:=by
 rintro rfl
 simp [World.cell?,U] at h
theorem Ct.put {l:Nat} {r':Loop} (h:Ct I st w) (hl:w.heap[l]? =some (.loop r)):Ct I st (w.putObj l (.loop r')):=by
 have ne:∀{b:Nat} {c:Array Value} {ty:TypeId},w.heap[b]? =some (.cells c ty (0,0))->b≠l:=λe=>by grind
 refine ⟨λb o v e=>?_,λb n e=>?_,λb cs e=>?_,h.HJ,λb n e=>?_,h.SJ⟩
 .have e:=h.cell b o v e
  rw [Gv (World.putObj_heap_other (ov hl e))];exact e
 .obtain ⟨c,ty,U,h2⟩:=h.shape b n e
  exact ⟨c,ty,by rw [World.putObj_heap_other (ne U)];exact U,h2⟩
 .obtain ⟨vs,ty,U,h2⟩:=h.box b cs e
  exact ⟨vs,ty,by rw [World.putObj_heap_other (ne U)];exact U,h2⟩
 .rw [World.putObj_size];exact h.hw b n e
def Idle (l:Nat) (st:St):Prop:=st.box l=none/\st.hw l=none
theorem Idle.fr {l:Nat} {I':Mem} (h:Idle l st) (hl:l<w.heap.size) (U:Fr I st w I' st' w'):Idle l st'/\w'.heap[l]? =w.heap[l]? :=by
 refine ⟨?_,U.Ld l hl h.1 h.2⟩
 have:¬(st'.box l≠none\/st'.hw l≠none):=λe=>by
  rcases U.K0 l e with e|e|e
  .omega
  .exact e h.1
  .exact e h.2
 exact ⟨Classical.byContradiction λe=>this (.inl e),Classical.byContradiction λe=>this (.inr e)⟩
theorem Ja {l:Nat} {o:Obj} (h:w.heap[l]? =some o):l<w.heap.size:=(Array.getElem?_eq_some_iff.1 h).1
def YS (P:Program) (l:Nat) (r:Loop) (Im:Mem) (vs:List V) (st:St) (K:St->Prop):Prop:=
 ∀n I w (U:List Value),Im.le I->Ct I st w->Aj I vs U->w.heap[l]? =some (.loop r)->Idle l st->
  YieldAt (fw none) n P l U.toArray w λe w'=>e=.returned (.bool true)/\∃I' st',Fr I st w I' st' w'/\Ct I' st' w'/\K st'
theorem YS.mono {l:Nat} {r:Loop} {Im:Mem} {vs:List V} {K K':St->Prop} (h:YS P l r Im vs st K) (k:∀st,K st->K' st):YS P l r Im vs st K':=λn I w U h1 h2 h3 h4 h5=>by
 obtain ⟨fn,tmps,assign,body,e,hr⟩:=h n I w U h1 h2 h3 h4 h5
 exact ⟨fn,tmps,assign,body,e,hr.mono λe w' ⟨e1,I',st',q1,q2,q3⟩=>⟨e1,I',st',q1,q2,k _ q3⟩⟩
def bw (P:Program) (T:List (Nat×Ty)) (assign body:Code) (env:Env) (st:St) (K:St->Prop):Prop:=
 OJ T (A9 P) assign (B4 (λenv st=>(env.boxes=[]/\(env.tmps.all λp=>p.2.plain)=true)/\OJ T (A9 P) body (B4 (λ_ st=>K st) l5) env st) l5) env st
theorem Su {v:V} {c:Value} (h:AZ I β v c) (hp:v.plain=true):AZ I (λ_=>none) v c:=by
 cases v<;>first|exact h|cases hp
theorem Rel.bare (h:HG D w0.heap.size I β env st a w) (hb:env.boxes=[]) (hp:(env.tmps.all λp=>p.2.plain)=true) {U:Mem} (hs:Ct U st' w') (hle:I.le U) {D':List Deferred}:Rel D' U st' w' U (λ_=>none) env st' {a with defers:=D'} w':=by
 refine ⟨Fr.refl,hs,⟨h.size,λt v e=>?_,λid cs e=>?_,(λid b e=>by cases e),(λi j b e=>by cases e),(λid b e=>by cases e),rfl⟩⟩
 .have hv:=List.all_eq_true.1 hp _ (FN e)
  have:=Su (h.tmps t v e) hv
  have e2:v.plain=true:=hv
  cases v<;>first|exact AK.mono hle _ _ this|cases e2
 .rw [hb] at e;cases e
theorem lZ (hP:SS P T) {l:Nat} {wm:World} {stm:St} {B:Nat} (hF:HG D B Im β env stm a wm) (hb:env.boxes=[]) (hp:(env.tmps.all λp=>p.2.plain)=true) {fn:FuncId} {p1 p2:Tmp} {assign body:Code} {df:Nat}
 (hr:r={state:=.ready,pending:=none,fn,tmps:=a.tmps,params:=#[p1,p2],assign,body,defers:=df}) (ok:(F8 assign&&F8 body)=true) (hlt:(Nat.blt p1 env.sz&&Nat.blt p2 env.sz)=true) {v1 v2:V} {K:St->Prop} (hv:(v1.plain&&v2.plain)=true)
 (h:bw P T assign body {env with tmps:=(p2,v2)::(p1,v1)::env.tmps} st K):YS P l r Im [v1,v2] st K:=by
 intro n I w cargs hle hs hargs hl hid
 simp only [Aj] at hargs
 obtain ⟨c1,r1,rfl,q1,c2,r2,rfl,q2,rfl⟩:=hargs
 simp only [Bool.and_eq_true] at ok hlt hv
 have hl1:p1<env.sz:=by simpa [Nat.blt_eq] using hlt.1
 have hl2:p2<env.sz:=by simpa [Nat.blt_eq] using hlt.2
 have hy:=run_yield (P:=P) (args:=#[c1,c2]) hl kw
 rw [hr] at hy
 have ht:(#[p1,p2].zip #[c1,c2]).foldl (λtmps (x:Nat×Value)=>match x with|(t,a)=>tmps.setIfInBounds t a) a.tmps=(a.tmps.setIfInBounds p1 c1).setIfInBounds p2 c2:=by
  simp [Array.zip]
 dsimp only at hy
 rw [ht] at hy
 refine ⟨fn,_,assign,body,hy,roundIn_of_wpIn trivial ?_⟩
 have hsz:=hF.size
 have r0:Rel [] I st w I (λ_=>none) {env with tmps:=(p2,v2)::(p1,v1)::env.tmps} st {tmps:=(a.tmps.setIfInBounds p1 c1).setIfInBounds p2 c2,defers:=[]} w:=by
  refine ⟨Fr.refl,hs,⟨kw,λt v e=>?_,λid cs e=>?_,λid b e=>(by cases e),λi j b e=>(by cases e),λid b e=>(by cases e),rfl⟩⟩
  .have key:∀{x:V} {c:Value},AK I x c->x.plain=true->AZ I (λ_=>none) x c:=λh _=>AZ.of h
   rw [Bj] at e
   cases R6:Nat.beq p2 t with
   |true=>
    simp_all
   |false=>
    rw [R6] at e
    have hn2:p2≠t:=λx=>by simp_all
    simp only [cond_false] at e
    rw [Bj] at e
    cases hb1:Nat.beq p1 t with
    |true=>
     simp_all
    |false=>
     rw [hb1] at e
     have hn1:p1≠t:=λx=>by simp_all
     simp only [cond_false] at e
     have hpl:v.plain=true:=List.all_eq_true.1 hp _ (FN e)
     have h0:=Su (hF.tmps t v e) hpl
     have:((a.tmps.setIfInBounds p1 c1).setIfInBounds p2 c2).getD t undef=a.tmps.getD t undef:=by
      simp [Array.getD_eq_getD_getElem?,Array.getElem?_setIfInBounds_ne hn2,Array.getElem?_setIfInBounds_ne hn1]
     rw [this]
     cases v<;>first|exact AK.mono hle _ _ h0|cases hpl
  .rw [show ({env with tmps:=(p2,v2)::(p1,v1)::env.tmps}:Env).boxes=[] from hb] at e;cases e
 have hltl:=Ja hl
 refine wpIn_mono (Lo hP (some l) assign ok.1 h n [] I st w I _ _ w r0) ?_
 rintro e a1 w1 ⟨I1,β1,env1,st1,ae,r1,x1,k1⟩
 cases ae with
 |exit _|goto _|ret|B0 _=>exact k1.elim
 |normal=>
 cases e with
 |exit _|goto _|ret|panic _|outgrown=>exact x1.elim
 |normal=>
 obtain ⟨⟨b1,b2⟩,k1⟩:=k1
 obtain ⟨hid1,U⟩:=hid.fr hltl r1.fr
 rw [hl] at U
 have hrdy:r.state=.ready:=by rw [hr]
 refine ⟨_,run_beginRound U hrdy,?_⟩
 have hs2:Ct I1 st1 (w1.putObj l (.loop {r with state:=.busy})):=r1.s.put U
 have r2:=Rel.bare (D':=[]) r1.f b1 b2 hs2 (Mem.le_refl _)
 have hd1:a1={a1 with defers:=[]}:=by
  have:=r1.f.defers
  cases a1;simp_all
 rw [hd1]
 refine wpIn_mono (Lo hP (some l) body ok.2 k1 n [] I1 st1 _ I1 _ _ _ r2) ?_
 rintro e a3 w3 ⟨I3,β3,env3,st3,ae,r3,x3,k3⟩
 cases ae with
 |exit _|goto _|ret|B0 _=>exact k3.elim
 |normal=>
 cases e with
 |exit _|goto _|ret|panic _|outgrown=>exact x3.elim
 |normal=>
 have hlt1:l<w1.heap.size:=Ja U
 obtain ⟨hid3,hl3⟩:=hid1.fr (w:=w1.putObj l (.loop {r with state:=.busy})) (by rw [World.putObj_size];omega) r3.fr
 rw [World.putObj_heap_same hlt1] at hl3
 refine ⟨_,_,run_endRound none hl3,?_⟩
 have hrr:({({r with state:=.busy}:Loop) with state:=if (none:Option Code).isNone then .ready else .done,pending:=none}:Loop)=r:=by rw [hr];rfl
 rw [hrr]
 refine ⟨rfl,I3,st3,?_,r3.s.put hl3,k3⟩
 have f1:=r1.fr
 have f3:=r3.fr
 have z1:(w1.putObj l (.loop {r with state:=.busy})).heap.size=w1.heap.size:=World.putObj_size
 have z3:(w3.putObj l (.loop r)).heap.size=w3.heap.size:=World.putObj_size
 have f13:Fr I1 st1 w1 I3 st3 (w3.putObj l (.loop r)):=by
  refine ⟨f3.os,f3.tape,f3.output,by rw [z3,<-z1];exact f3.size,λb hb h1 h2=>?_,f3.le,λb o h1 h2=>by rw [<-z1];exact f3.new b o h1 h2,λb h1 h2=>by rw [<-z1];exact f3.K2 b h1 h2,λb h1=>by rw [<-z1];exact f3.K0 b h1⟩
  by_cases e:b=l
  .subst e
   rw [World.putObj_heap_same (Ja hl3),U]
  .rw [World.putObj_heap_other e,f3.Ld b AC h1 h2,World.putObj_heap_other e]
 exact f1.trans f13
def Pj (P:Program) (l:Nat) (r:Loop) (Im:Mem) (c:Code) (Q:AH->Env->St->Prop) (env:Env) (st:St):Prop:=
 ∀D I0 st0 w0 I β a w,Im.le I0->w0.heap[l]? =some (.loop r)->Idle l st0->Rel D I0 st0 w0 I β env st a w->c.wp P (B6 D I0 st0 w0 Q) a w
variable {l:Nat} {r:Loop} {Im:Mem} {Q:AH->Env->St->Prop}
theorem Pj.of {c:Code} (h:AW P c Q env st):Pj P l r Im c Q env st:=λD I0 st0 w0 I β a w _ _ _ U=>h D I0 st0 w0 I β a w U
theorem F3 {x y:Code} (h:Pj P l r Im x (B4 (λenv st=>Pj P l r Im y Q env st) Q) env st):Pj P l r Im (.seq x y) Q env st:=λD I0 st0 w0 I β a w g1 g2 g3 hr=>by
 refine wp_seq (wp_mono (h D I0 st0 w0 I β a w g1 g2 g3 hr) ?_)
 rintro e a w ⟨I,β,env,st,ae,h1,U,h3⟩
 cases ae with
 |normal=>cases e<;>first|exact h3 D I0 st0 w0 I β a w g1 g2 g3 h1|exact U.elim
 |exit i=>cases e<;>first|exact ⟨I,β,env,st,.exit i,h1,U,h3⟩|exact U.elim
 |goto i=>cases e<;>first|exact ⟨I,β,env,st,.goto i,h1,U,h3⟩|exact U.elim
 |ret=>cases e<;>first|exact ⟨I,β,env,st,.ret,h1,U,h3⟩|exact U.elim
 |B0 v=>cases e<;>first|exact ⟨I,β,env,st,.B0 v,h1,U,h3⟩|exact U.elim
theorem RF {c:Code} (h:Pj P l r Im c (PB id Q) env st):Pj P l r Im (.block id c) Q env st:=λD I0 st0 w0 I β a w g1 g2 g3 hr=>by
 refine wp_block (wp_mono (h D I0 st0 w0 I β a w g1 g2 g3 hr) ?_)
 rintro e a w ⟨I,β,env,st,ae,h1,U,h3⟩
 cases ae with
 |normal=>cases e<;>first|exact ⟨I,β,env,st,.normal,h1,trivial,h3⟩|exact U.elim
 |exit i=>
  cases e<;>try exact U.elim
  rename_i i'
  have U:i'=i:=U
  subst U
  simp only [PB] at h3
  show (if i'=id then B6 D I0 st0 w0 Q .normal a w else B6 D I0 st0 w0 Q (.exit i') a w)
  by_cases hi:i'=id
  .subst hi
   rw [if_pos rfl]
   simp only [Nat.beq_refl,cond_true] at h3
   exact ⟨I,β,env,st,.normal,h1,trivial,h3⟩
  .rw [if_neg hi]
   have:Nat.beq i' id=false:=by
    cases hb:Nat.beq i' id with
    |false=>rfl
    |true=>simp_all
   rw [this] at h3
   exact ⟨I,β,env,st,.exit i',h1,rfl,h3⟩
 |goto i=>cases e<;>first|exact ⟨I,β,env,st,.goto i,h1,U,h3⟩|exact U.elim
 |ret=>cases e<;>first|exact ⟨I,β,env,st,.ret,h1,U,h3⟩|exact U.elim
 |B0 v=>cases e<;>first|exact ⟨I,β,env,st,.B0 v,h1,U,h3⟩|exact U.elim
theorem fo {c:Code} (h:∃(α:Type) (E:α->Env) (S:α->St) (J:α->Prop) (μ:α->Nat) (x0:α),J x0/\(E x0).Ff env/\St.le (S x0) st/\
 ∀x,J x->Pj P l r Im c (B4 (λenv' st'=>∃y,J y/\μ y<μ x/\(E y).Ff env'/\St.le (S y) st') Q) (E x) (S x)):Pj P l r Im (.loop c) Q env st:=λD I0 st0 w0 I β a w g1 g2 g3 hr=>by
 obtain ⟨α,E,S,J,μ,x0,h0,he,hs,round⟩:=h
 refine Ou (λn a w=>∃I β x,Rel D I0 st0 w0 I β (E x) (S x) a w/\J x/\n=μ x) (n0:=μ x0) ⟨I,_,x0,(hr.Hn hs).JA (Env.JC he),h0,rfl⟩ ?_
 rintro n a w ⟨I,β,x,h,hi,rfl⟩
 refine wp_mono (round x hi D I0 st0 w0 I β a w g1 g2 g3 h) ?_
 rintro e a w ⟨I,β,env,st,ae,h1,U,h3⟩
 cases ae with
 |normal=>
  cases e<;>try exact U.elim
  obtain ⟨y,q1,q2,q3,q4⟩:=h3
  exact ⟨μ y,q2,I,_,y,(h1.Hn q4).JA (Env.JC q3),q1,rfl⟩
 |exit i=>cases e<;>first|exact ⟨I,β,env,st,.exit i,h1,U,h3⟩|exact U.elim
 |goto i=>cases e<;>first|exact ⟨I,β,env,st,.goto i,h1,U,h3⟩|exact U.elim
 |ret=>cases e<;>first|exact ⟨I,β,env,st,.ret,h1,U,h3⟩|exact U.elim
 |B0 v=>cases e<;>first|exact ⟨I,β,env,st,.B0 v,h1,U,h3⟩|exact U.elim
theorem bV (hP:SS P T) {all pre post:List Oper} {oc:Oper} {c:Call} {f:Operand} (hall:all=pre++oc::post) (hnd:OY all=true) (hc:oc.op=.call c) (hf:c.callee=.value f) (hg:oc.guard=none)
 (h:Eg T (A9 P) all (B4 (λenv st=>env.eval f=.fj l/\UE env c.args.toList λvs=>YS P l r Im vs st λst'=>env.go oc.dst (.bool true) λenv=>Eg T (A9 P) all Q post env st') Q) pre env st):
 Pj P l r Im (.region id all.toArray false) Q env st:=λD I0 st0 w0 I β a w g1 g2 g3 hr=>by
 have hC:=Cb P
 have nd:=J7 hnd
 rw [<-wpIn_wide (n:=1)]
 refine wpIn_region_list (F:=fw none) (n:=1) ?_
 rw [show all.toArray.toList=pre++oc::post by rw [hall]]
 have hpre:∀o ∈ pre,∀c,o.op≠.defer c:=λo ho=>nd o kw
 refine OT (ro:=none) (n:=1) (Q0:=B6 D I0 st0 w0 (B4 (λenv st=>env.eval f=.fj l/\UE env c.args.toList λvs=>YS P l r Im vs st λst'=>env.go oc.dst (.bool true) λenv=>Eg T (A9 P) all Q post env st') Q)) Mq ?_ ?_ pre a w hpre (Fc hP.t hC hr h)
 .rintro e a w hne ⟨I,β,env,st,ae,U,h2,h3⟩
  cases ae with
  |normal=>cases e<;>first|exact absurd rfl hne|exact h2.elim
  |exit i=>exact ⟨I,β,env,st,.exit i,U,h2,h3⟩
  |goto i=>exact ⟨I,β,env,st,.goto i,U,h2,h3⟩
  |ret=>exact ⟨I,β,env,st,.ret,U,h2,h3⟩
  |B0 v=>exact ⟨I,β,env,st,.B0 v,U,h2,h3⟩
 .rintro a1 w1 ⟨I1,β1,env1,st1,ae,U,h2,h3⟩
  cases ae with
  |exit _|goto _|ret|B0 _=>exact h2.elim
  |normal=>
  obtain ⟨he,h3⟩:=h3
  have hfv:=U.f.eval f
  rw [he] at hfv
  have hfv':AK I1 (.fj l) (a1.eval f):=hfv
  simp only [AK] at hfv'
  obtain ⟨vs,q1,q2⟩:=FO U.f h3
  obtain ⟨hid,hl⟩:=g3.fr (Ja g2) U.fr
  rw [g2] at hl
  obtain ⟨fn,tmps,assign,body,hy,hround⟩:=q2 (1 - 1) I1 w1 _ (Mem.le_trans g1 U.fr.le) U.s q1 hl hid
  have harr:(c.args.toList.map a1.eval).toArray=c.args.map a1.eval:=by apply Array.ext';simp
  rw [harr] at hy
  have hrun:(execOp a1.eval oc).run P w1=.ok (.round l fn tmps assign body) w1:=by
   simp only [execOp,hc,resolve,hf,hfv',Deferred.ofValue,Sem.run_bind,Sem.run_pure,Result.andThen_ok,invoke]
   simpa using hy
  unfold wpListIn
  rw [if_pos (by simp [Region.wanted,hg])]
  refine ⟨λ_ _=>trivial,?_⟩
  rw [Oper.semAt_eq _ _ _ kw,hrun]
  refine ⟨λe=>(by cases e),hround.mono λe w' ⟨e1,I2,st2,f1,f2,k⟩=>?_⟩
  subst e1
  have r2:=U.called f1 f2
  obtain ⟨env3,r3,k3⟩:=B9 r2 (c:=.bool true) (AZ.of H1) k
  have hpost:∀o ∈ post,∀c,o.op≠.defer c:=λo ho=>nd o kw
  have:=OT (ro:=none) (n:=1) (l2:=[]) Mq (λ_ _ _ _ h=>h) (λa w h=>h) post _ w' hpost (Fc hP.t hC r3 k3)
  simp_all
end
def bk:Obj->Bool
 | .loop _| .deferred _=>true
 |_=>false
section
variable {D:List Deferred} {P:Program} {T:List (Nat×Ty)} {I0 I:Mem} {st0 st:St} {w0 w:World} {β:Nat->Option Nat} {env:Env} {a:Act}
theorem mw {l o:Nat} {x:Obj} {v:Value} (U:w.heap[l]? =some x) (hx:bk x=true) (h:w.cell? ⟨b,o,none⟩=some v):b≠l:=by
 rintro rfl
 cases x<;>first|(simp [World.cell?,U] at h;done)|cases hx
theorem PA {l:Nat} {x:Obj} {c:Array Value} {ty:TypeId} (U:w.heap[l]? =some x) (hx:bk x=true) (h:w.heap[b]? =some (.cells c ty (0,0))):b≠l:=by
 rintro rfl
 rw [U] at h;cases h;cases hx
theorem Ct.dB {l:Nat} {x y:Obj} (h:Ct I st w) (hl:w.heap[l]? =some x) (hx:bk x=true):Ct I st (w.putObj l y):=by
 refine ⟨λb o v e=>?_,λb n e=>?_,λb cs e=>?_,h.HJ,λb n e=>?_,h.SJ⟩
 .have e:=h.cell b o v e
  rw [Gv (World.putObj_heap_other (mw hl hx e))];exact e
 .obtain ⟨c,ty,U,h2⟩:=h.shape b n e
  exact ⟨c,ty,by rw [World.putObj_heap_other (PA hl hx U)];exact U,h2⟩
 .obtain ⟨vs,ty,U,h2⟩:=h.box b cs e
  exact ⟨vs,ty,by rw [World.putObj_heap_other (PA hl hx U)];exact U,h2⟩
 .rw [World.putObj_size];exact h.hw b n e
theorem Fr.dB {l:Nat} {y:Obj} (h:Fr I0 st0 w0 I st w) (hl:w0.heap.size<=l):Fr I0 st0 w0 I st (w.putObj l y):=
 ⟨h.os,h.tape,h.output,by rw [World.putObj_size];exact h.size,λb hb U h2=>by rw [World.putObj_heap_other AC];exact h.Ld b hb U h2,h.le,h.new,h.K2,h.K0⟩
theorem Rel.dB {l:Nat} {x y:Obj} (h:Rel D I0 st0 w0 I β env st a w) (hl:w.heap[l]? =some x) (hx:bk x=true) (hw:w0.heap.size<=l):Rel D I0 st0 w0 I β env st a (w.putObj l y):=by
 refine ⟨h.fr.dB hw,h.s.dB hl hx,⟨h.f.size,h.f.tmps,λid cs e=>?_,h.f.Bm,h.f.inj,λid b e=>?_,h.f.defers⟩⟩
 .obtain ⟨b,h1,U⟩:=h.f.box id cs e
  refine ⟨b,h1,?_⟩
  have hne:b≠l:=by
   rintro rfl
   rcases U with ⟨vs,ty,U,_⟩|⟨s,pos,_,_,U⟩
   .exact PA hl hx U rfl
   .rw [hl] at U;cases U;cases hx
  rw [World.putObj_heap_other hne];exact U
 .rw [World.putObj_size];exact h.f.sep id b e
theorem Ct.idle {l:Nat} (h:Ct I st w) (hl:w.heap.size<=l):Idle l st:=by
 refine ⟨?_,?_⟩
 .cases e:st.box l with
  |none=>rfl
  |some cs=>
   obtain ⟨vs,ty,U,_⟩:=h.box l cs e
   simp_all
 .cases e:st.hw l with
  |none=>rfl
  |some n=>have:=(h.hw l n e).1;omega
theorem S7 (hP:SS P T) {c:Code} (hf:P.funcs[f]? =some fn) (hb:fn.body=some c) (hres:fn.results.toList=[]) {l:Nat} {K:St->Prop} (hle:Nat.ble args.length fn.ntmps=true)
 (h:Pj P l r Im c (λae _ st=>(ae=.normal\/ae=.ret)/\K st) {tmps:=Jy 0 args,boxes:=[],Bm:=0,sz:=fn.ntmps,gl:=[]} st) {U:List Value} (hm:Im.le I) (hs:Ct I st w) (hargs:Aj I args U) (hl:w.heap[l]? =some (.loop r)) (hi:Idle l st):
 Calls P f U.toArray w λe w'=>(∃v,e=.returned v)/\∃I' st',Fr I st w I' st' w'/\Ct I' st' w'/\K st':=by
 refine calls_of_wp hf hb (wp_mono (h [] I st w I _ _ w hm hl hi (GW [] hs hargs hle)) ?_)
 rintro e a w' ⟨I1,β1,env1,st1,ae,h1,h2,h3,h4⟩
 have hret:a.defers=[]/\∃v,(results fn a.tmps).run P w'=.ok v w'/\((∃v',Ending.returned v=.returned v')/\∃I' st',Fr I st w I' st' w'/\Ct I' st' w'/\K st'):=by
  obtain ⟨v,c,g1,g2,g3⟩:=CM (P:=P) (fn:=fn) (R:=λ_ s=>K s) hP.t h1 (by rw [hres];exact h4)
  exact ⟨h1.f.defers,c,g1,⟨_,rfl⟩,I1,st1,h1.fr,h1.s,g3⟩
 rcases h3 with rfl|rfl<;>(cases e<;>first|exact hret|exact h2.elim)
def sq (P:Program) (T:List (Nat×Ty)) (fn:Func) (g:Operand) (p1 p2:Tmp) (assign body rest:Code) (R:AA->St->Prop) (env:Env) (st:St):Prop:=
 (env.boxes=[]/\(env.tmps.all λp=>p.2.plain)=true)/\∃(gf:FuncId) (caps:List V) (K:St->Prop),(env.eval g=.func gf [] caps/\Plain P gf)/\
   (∀(D:List Deferred) (B:Nat) (Im:Mem) (β:Nat->Option Nat) (a:Act) (wm:World) (l df:Nat) (fi:FuncId),HG D B Im β env st a wm->
     ∀(I:Mem) (w:World) (U:List Value),Im.le I->Ct I st w->Aj I caps U->w.heap[l]? =some (.loop {state:=.ready,pending:=none,fn:=fi,tmps:=a.tmps,params:=#[p1,p2],assign,body,defers:=df})->Idle l st->
      Calls P gf (Value.func (.yield l) #[] #[]::U).toArray w λe w'=>(∃v,e=.returned v)/\∃I' st',Fr I st w I' st' w'/\Ct I' st' w'/\K st')/\
   ∀st',K st'->AW P rest (λae env st=>(ae=.normal\/ae=.ret)/\V5 T fn R env st) env st'
theorem T1 (hP:SS P T) {R:AA->St->Prop} (hf:P.funcs[f]? =some fn) {c0 c1 c2 assign body rest:Code} {bid:Nat} {g:Operand} {p1 p2:Tmp}
 (hb : fn.body = some (.seq c0 (.seq c1 (.seq (.seq c2 (.block bid (.rangeFunc g #[p1, p2] assign body))) rest)))) (hn : (fn.name == "runtime.NumGoroutine") = false) (hle : Nat.ble args.length fn.ntmps = true)
 (h:AW P c0 (B4 (λenv st=>AW P c1 (B4 (λenv st=>AW P c2 (B4 (fe (sq P T fn g p1 p2 assign body rest R)) l5) env st) l5) env st) l5) {tmps:=Jy 0 args,boxes:=[],Bm:=0,sz:=fn.ntmps,gl:=[]} st):A9 P f args st R:=by
 refine ⟨?_,fn,hf,kw,hn⟩
 intro I w cargs hs hargs
 rw [<-callsIn_wide (n:=3)]
 refine callsIn_of_wp_marks hf hb trivial ?_
 have norm:∀{c:Code} {Q:Env->St->Prop} {n:Nat} {D:List Deferred} {I0:Mem} {st0:St} {w0:World} {X:Act->World->Prop} {Y:Exit->Act->World->Prop} {a:Act} {w:World},c.wp P (B6 D I0 st0 w0 (B4 Q l5)) a w->
  (∀I β env st a w,Rel D I0 st0 w0 I β env st a w->Q env st->X a w)->c.wpIn Fence.wide n P (Exit.then X Y) a w:=λh k=>by
  refine wpIn_wide.2 (wp_mono h ?_)
  rintro e a w ⟨I,β,env,st,ae,h1,h2,h3⟩
  cases ae with
  |exit _|goto _|ret|B0 _=>exact h3.elim
  |normal=>
  cases e with
  |exit _|goto _|ret|panic _|outgrown=>exact h2.elim
  |normal=>exact k I β env st a w h1 h3
 refine wpIn_seq (norm (h [] I st w I _ _ w (GW [] hs hargs hle)) λI1 β1 env1 st1 a1 w1 r1 k1=>?_)
 refine wpIn_seq (norm (k1 [] I st w I1 β1 a1 w1 r1) λI2 β2 env2 st2 a2 w2 r2 k2=>?_)
 refine wpIn_seq (wpIn_seq (norm (k2 [] I st w I2 β2 a2 w2 r2) λI3 β3 env3 st3 a3 U r3 k3=>?_))
 refine wpIn_block ?_
 obtain ⟨I4,β4,env4,st4,r4,k4⟩:=k3 [] I st w I3 β3 a3 U r3
 obtain ⟨⟨b1,b2⟩,gf,caps,K,⟨hg,fg,q1,q2,q3⟩,hit,hrest⟩:=k4
 have hgv:=r4.f.eval g
 rw [hg] at hgv
 have hgv':AK I4 (.func gf [] caps) (a3.eval g):=hgv
 simp only [AK,Aj] at hgv'
 obtain ⟨az,lb,hge,haz,hlb⟩:=hgv'
 subst haz
 refine wpIn_rangeFunc λfi hfi=>?_
 obtain ⟨rec,hrec⟩:∃rec:Loop,rec={state:=.ready,pending:=none,fn:=fi,tmps:=a3.tmps,params:=#[p1,p2],assign,body,defers:=U.heap.size}:=⟨_,rfl⟩
 obtain ⟨W1,hW1⟩:∃W1,(U.alloc (.deferred (some []))).alloc (.loop rec)=W1:=⟨_,rfl⟩
 have hL1:W1.heap[U.heap.size+1]? =some (.loop rec):=by
  rw [<-hW1];have:=World.alloc_heap_new (U.alloc (.deferred (some []))) (.loop rec);rwa [World.size_alloc] at this
 have hK1:W1.heap[U.heap.size]? =some (.deferred (some [])):=by
  rw [<-hW1];exact (RowKit.Below.heap_alloc _ _ _ GT).trans (World.alloc_heap_new U _)
 have r5:Rel [] I st w I4 β4 env4 st4 a3 W1:=by rw [<-hW1];exact (r4.IV (FL.alloc _ _)).IV (FL.alloc _ _)
 have hidL:Idle (U.heap.size+1) st4:=r4.s.idle AC
 have hidD:Idle U.heap.size st4:=r4.s.idle (Nat.le_refl _)
 have hsz:w.heap.size<=U.heap.size:=r4.fr.size
 have heg:∀args w,(callFunc gf args).run P w=.ok (.enter gf args) w:=λargs w=>by
  have hb:fg.body.isNone=false:=by cases hb:fg.body<;>simp_all
  simp only [callFunc,Sem.run_bind,Sem.run_pure,Result.andThen_ok,run_program,q1]
  rw [q3]
  simp [hb]
 refine ⟨U.heap.size+1,[{target:=.collected U.heap.size,args:=#[]}],W1,{target:=.fn (.func gf) lb.toArray,args:=#[.func (.yield (U.heap.size+1)) #[] #[]]},W1,gf,#[.func (.yield (U.heap.size+1)) #[] #[]]++lb.toArray,W1,?_,?_,λ_ _=>trivial,?_,λe=>(by cases e),?_⟩
 .rw [<-hW1,hrec];exact run_enterLoop_outer _ _ _ _ _
 .simp only [resolve,hge,Deferred.ofValue,Sem.run_pure]
  simp [Act.eval]
 .simp [invoke,heg]
 .have hcall:=hit [] w.heap.size I4 β4 a3 U (U.heap.size+1) U.heap.size fi r4.f I4 W1 lb (Mem.le_refl _) r5.s hlb kw hidL
  have harr:(Value.func (.yield (U.heap.size+1)) #[] #[]::lb).toArray=#[.func (.yield (U.heap.size+1)) #[] #[]]++lb.toArray:=by apply Array.ext';simp
  rw [harr] at hcall
  refine (callsIn_wide.2 hcall).mono ?_
  rintro e W2 ⟨⟨v,rfl⟩,I6,st6,f6,s6,k6⟩
  have r6:=r5.called f6 s6
  obtain ⟨hidL6,hL6⟩:=hidL.fr (Ja hL1) f6
  obtain ⟨hidD6,hD6⟩:=hidD.fr (Ja hK1) f6
  rw [hL1] at hL6
  rw [hK1] at hD6
  refine ⟨none,W2.putObj (U.heap.size+1) (.loop {rec with state:=.exhausted}),by have:=run_endLoop (P:=P) hL6 (by grind);grind,?_⟩
  have r7:=r6.dB (y:=.loop {rec with state:=.exhausted}) hL6 rfl AC
  have hD7:(W2.putObj (U.heap.size+1) (.loop {rec with state:=.exhausted})).heap[U.heap.size]? =some (.deferred (some [])):=(World.putObj_heap_other AC).trans hD6
  generalize W2.putObj (U.heap.size+1) (.loop {rec with state:=.exhausted})=W3 at r7 hD7
  show rest.wpIn Fence.wide 3 P _ _ W3
  have r8:=Rel.bare (D':=[{target:=.collected U.heap.size,args:=#[]}]) r7.f b1 b2 r7.s (Mem.le_refl _)
  have hd0:a3.defers=[]:=r7.f.defers
  rw [hd0]
  refine wpIn_wide.2 (wp_mono (hrest st6 k6 _ I6 st6 W3 I6 _ _ W3 r8) ?_)
  rintro e a9 w9 ⟨I9,β9,env9,st9,ae,r9,x9,k9,q9⟩
  have hlast:LeavesInM Fence.wide 3 P fn a9.tmps (λe w'=>∃I' st' r,Fr I st w I' st' w'/\Ct I' st' w'/\V3 I' e r/\R r st') a9.defers .returning w9:=by
   rw [r9.f.defers]
   obtain ⟨_,hD9⟩:=hidD6.fr (Ja hD7) r9.fr
   rw [hD7] at hD9
   refine ⟨GT,.inl ⟨_,_,rfl,run_takeDeferred hD9,?_⟩⟩
   have hle9:W3.heap.size<=w9.heap.size:=r9.fr.size
   have hfr:Fr I st w I9 st9 w9:=r7.fr.trans r9.fr
   have r10:Rel [{target:=.collected U.heap.size,args:=#[]}] I st w I9 β9 env9 st9 a9 w9:=⟨hfr,r9.s,⟨r9.f.size,r9.f.tmps,r9.f.box,r9.f.Bm,r9.f.inj,λid b e=>by
    obtain ⟨h1,h2⟩:=r9.f.sep id b e
    grind,r9.f.defers⟩⟩
   have r11:=r10.dB (y:=.deferred none) hD9 rfl hsz
   obtain ⟨v,c,g1,g2,g3⟩:=CM (P:=P) hP.t r11 q9
   exact ⟨c,g1,I9,st9,.ret v,r11.fr,r11.s,g2,g3⟩
  rcases k9 with rfl|rfl
  .cases e<;>first|exact hlast|exact x9.elim
  .cases e<;>first|exact hlast|exact x9.elim
theorem ZH (hP:SS P T) {l:Nat} {Q:AH->Env->St->Prop} {all:List Oper} (k:Nat) {U:Oper} {c:Call} {f:Operand} (hk:all[k]? =some U) (hnd:OY all=true) (hc:U.op=.call c) (hf:c.callee=.value f) (hg:U.guard=none)
 (h:Eg T (A9 P) all (B4 (λenv st=>env.eval f=.fj l/\UE env c.args.toList λvs=>YS P l r Im vs st λst'=>env.go U.dst (.bool true) λenv=>Eg T (A9 P) all Q (all.drop (k+1)) env st') Q) (all.take k) env st):
 Pj P l r Im (.region id all.toArray false) Q env st:=
 bV hP (by
  obtain ⟨h1,h2⟩:=List.getElem?_eq_some_iff.1 hk
  rw [<-h2,<-List.drop_eq_getElem_cons h1,List.take_append_drop]) hnd hc hf hg h
end
end Go.Aw
namespace Go.Proofs.Z
open Go Go.Aw
theorem c8 {l:List (List UInt8)} {K:Nat->Prop} (k:l.length<4611686018427387904->K l.length):∀m,m=(strs l).length->m<C9->K m:=λm U h=>by
 rw [show (strs l).length=l.length by simp [strs]] at U;subst U;exact k h
theorem YI (s:List UInt8) (U pos:Nat):(DM s U pos).length<=s.length - pos+1:=by
 fun_induction DM s U pos with
 |case1 U pos h1 h2 ih=>rw [List.length_cons];omega
 |case2 U pos h1 h2 ih=>omega
 |case3 U pos h1=>rw [List.length_singleton];omega
def Qq (t:Tk):Bool:=t.kind==9&&(t.text==[108,101,116]||t.text==[119,104,101,114,101]||t.text==[100,111]||t.text==[111,102])
def Yy (t:Tk) (k:Int) (x:List UInt8):Bool:=t.kind==k&&t.text==x
def qc (t:Tk):Int:=t.line+((DM t.text 0 0).length:Nat) - 1
def VE (p:Option Tk) (t:Tk):Int:=match p with
 |none=>if (Yy t 9 [109,111,100,117,108,101]||Yy t 15 [123])=true then 17 else 16
 |some p=>if (Qq p&& !Yy t 15 [123])=true then 16 else if (!(t.line==p.line)&& !(t.line==qc p))=true then 17 else 0
def markT (m:Int) (t:Tk):List Tk:=if m=0 then [t] else [⟨m,[],t.line,t.Cu⟩,t]
def D3:Option Tk->List Tk->List Tk
 |_,[]=>[]
 |p,t::r=>markT (VE p t) t++D3 (some t) r
def aH (l:List Tk):List Tk:=match l.getLast? with
 |none=>[⟨16,[],0,0⟩]
 |some t=>if Qq t=true then [⟨16,[],0,0⟩] else []
def ED (l:List Tk):List Tk:=D3 none l++aH l
def ahead (l:List Tk) (i:Nat):Option Tk:=if i=0 then none else l[i - 1]?
def Fu (l:List Tk) (i:Nat):Int:=match l[i]? with
 |some t=>VE (ahead l i) t
 |none=>0
section
variable {st:St} {K:AA->St->Prop}
theorem Qr (h:K (.ret (.bool (Qq t))) st):PC 82 [Fl t] st K:=by
 refine pB Tryz.func82 ?_
 repeat' ((conv=>whnf);first|(refine Bv ?_;intros)|(refine Bw ?_ ?_<;>intro _)|fail)
 all_goals conv=>whnf
 all_goals (refine At h ?_;clear h;simp_all [Qq])
theorem qj (h:K (.ret (.bool (Yy t k x))) st):PC 151 [Fl t,.int .i64 k,.str x] st K:=by
 refine pB Tryz.func151 ?_
 repeat' ((conv=>whnf);first|(refine Bv ?_;intros)|(refine Bw ?_ ?_<;>intro _)|fail)
 all_goals conv=>whnf
 all_goals (refine At h ?_;clear h;simp_all [Yy])
theorem rm (U:t.text.length<=100000000) (h2: -1000000000<=t.line) (h3:t.line<=1000000000) (h:K (.ret (.int .i64 (qc t))) st):PC 152 [Fl t] st K:=by
 refine pB Tryz.func152 ?_
 have hb:=YI t.text 0 0
 repeat' ((conv=>whnf);first|exact Db|(refine Bv ?_;intros)|(refine Dc ?_ ?_ ?_;rotate_left)|(refine Bw ?_ ?_<;>intro _)|refine aE U (λown ho=>?_)|refine c8 (λ_=>?_)|refine Af [(0,true),(1,true),(2,true),(3,true),(4,false),(5,true),(6,true),(7,true),(8,true)] [] GE ?_|with_reducible refine WF ?_)
 all_goals conv=>whnf
 all_goals exact ⟨_,_,.inl rfl,AJ.BK ho,h⟩
theorem o9 {l:List Tk} {own:AJ} (h:∀c,st.fresh c->K (.ret (.func 150 [] [.ptr c 0])) (st.Aa c [.slice 4 (Az l) own])):PC 81 [.slice 4 (Az l) own] st K:=by
 refine A5 Ae [] Tryz.func81 rfl Do rfl ?_
 refine Ak (An Ae ?_)
 repeat' ((conv=>whnf);first|(refine Bv ?_;intros)|(refine Bw ?_ ?_<;>intro _)|fail)
 refine Lj 1 0 rfl rfl rfl (λc U=>?_)
 refine An Ae ?_
 repeat' ((conv=>whnf);first|(refine Bv ?_;intros)|(refine Bw ?_ ?_<;>intro _)|fail)
 all_goals conv=>whnf
 all_goals exact ⟨_,_,.inl rfl,St.le_refl _,h c U⟩
end
def lz (l:List Tk):Bool:=l.all λt=>decide (t.text.length<=100000000)&&(decide (-1000000000<=t.line)&&decide (t.line<=1000000000))
def Zx:List UInt8:=[105,109,112,111,114,116,32,113,117,97,108,105,102,105,101,100,32,77,46,78,32,97,115,32,75,32,104,105,100,105,110,103,32,40,97,44,32,84,32,40,46,46,41,44,32,40,43,41,41,10,100,97,116,97,32,69,113,32,97,32,61,62,32,84,32,97,32,61,32,65,32,97,32,33,73,110,116,32,124,32,97,32,58,43,32,98,10,32,32,100,101,114,105,118,105,110,103,32,40,69,113,41,10,102,32,61,32,120]
def Zy:List UInt8:=[110,101,119,116,121,112,101,32,78,32,61,32,78,32,33,73,110,116]
def Mp (s:List UInt8):List Tk:=match EO s with| .inr x=>x.Ag| .inl _=>[]
theorem pG:(match EO Zx with| .inr _=>true| .inl _=>false)=true:=EQ
theorem pH:(match EO Zy with| .inr _=>true| .inl _=>false)=true:=EQ
theorem pE:(lz (Mp Zx)&&lz (Mp Zy)&&decide ((Mp Zx).length<=1000)&&decide ((Mp Zy).length<=1000)&&decide ((ED (Mp Zx)).length<=200)&&decide ((ED (Mp Zy)).length<=200))=true:=EQ
theorem tX:(match (CJ (Q8 (HV 4) (MX 4) (GN 4) (C7 4) (FK (C7 4) (JL 3)) (Ds EF (FK (C7 3) (JL 2))))).run ⟨ED (Mp Zx),0,[],0⟩ with
 | .inr (n,s')=>(n.kind==2&&s'.pos==(s'.Ag.length:Nat))&&(n.kids.map (λk=>(k.kind,if k.kind=50 then k.kids.length else 0))==[(50,7),(42,0),(36,0)])
 | .inl _=>false)=true:=EQ
theorem tY:(match (CJ (Q8 (HV 4) (MX 4) (GN 4) (C7 4) (FK (C7 4) (JL 3)) (Ds EF (FK (C7 3) (JL 2))))).run ⟨ED (Mp Zy),0,[],0⟩ with
 | .inr _=>false
 | .inl (e,_)=>e.1==120)=true:=EQ
section
variable {st0 st st':St} {b d:Nat} {s:Ad} {rows:List (AJ×List Nd)} {K:AA->St->Prop}
attribute [local irreducible] Go.Aw.Ah
theorem Cx.mono (h:Cx st0 b s st rows) (k:st.le st'):Cx st0 b s st' rows:=by
 refine ⟨?_,?_,h.mu⟩
 .rcases h.has with e|⟨t,u,o1,o2,e0,e⟩
  .exact .inl (k.1 _ _ e)
  .exact .inr ⟨t,u,o1,o2,e0,k.1 _ _ e⟩
 .obtain ⟨cs,U⟩:=h.rx
  refine ⟨cs,St.le_trans U.le k,λr hr'=>?_,U.ap⟩
  have:=U.ok r hr'
  obtain ⟨o,l⟩:=r
  cases o with
  |any=>exact this
  |full=>exact this
  |tok t=>exact ⟨this.1,k.2 _ _ this.2⟩
theorem Cx.qX {l new:List Int} {Q:V->St->Prop} (hc:Cx st0 b s st rows) (hb:l.length+new.length<=1000000000) (k:∀U st',Cx st0 b s st' rows->Q (.slice 1 (ints (l++new)) U) st'):Ah 1 8 (ints l) .full (ints new) st Q:=
 Pq (own:=.full) trivial hb λU ho=>k U _ (hc.mono (AJ.BK ho))
theorem oM (hc:Cx st0 b s st rows) (e:AU s k x=true) (U:k≠0/\k≠21) (kk:∀st',Cx st0 b (Ab s).2.1 st' rows->K (.ret (Fl (Ab s).1)) st'):PC 139 [.ptr b 0] st K:=
 Ud hc.has hc.hb (λ_ st' hu=>kk st' (hc.NK hu (Nat.le_of_lt (Cp e U.1 U.2)))) (λn=>absurd (CS e U.1) n)
theorem Pv {Q:List V->Prop} (h:Has st b s) (U:Q (CL s)) (k2:∀t u o1 o2 e,Q (Vk s t u o1 o2 e)):∃cs,st.box b=some cs/\Q cs:=by
 rcases h with e|⟨t,u,o1,o2,e0,e⟩
 .exact ⟨_,e,U⟩
 .exact ⟨_,e,k2 ..⟩
theorem KV {own:AJ} (h:K (.ret (enc (Aq k l))) st):PC 122 [.int .i64 k,.slice 6 (l.map AP) own] st K:=by
 refine pB Tryz.func122 ?_
 repeat' ((conv=>whnf);(first|refine A6 ?_|refine A7 ?_ ?_|refine A8 ?_ ?_|fail)<;>intros)
 all_goals exact EH (St.le_refl _) Ca h
theorem lB {a:Nd} {own:AJ} (h:K (.ret (enc (Aq k [a]))) st):PC 122 [.int .i64 k,.slice 6 [AP a] own] st K:=KV (l:=[a]) h
theorem lC {a b:Nd} {own:AJ} (h:K (.ret (enc (Aq k [a,b]))) st):PC 122 [.int .i64 k,.slice 6 [AP a,AP b] own] st K:=KV (l:=[a,b]) h
theorem lD {a b c:Nd} {own:AJ} (h:K (.ret (enc (Aq k [a,b,c]))) st):PC 122 [.int .i64 k,.slice 6 [AP a,AP b,AP c] own] st K:=KV (l:=[a,b,c]) h
theorem lE {a b c d:Nd} {own:AJ} (h:K (.ret (enc (Aq k [a,b,c,d]))) st):PC 122 [.int .i64 k,.slice 6 [AP a,AP b,AP c,AP d] own] st K:=KV (l:=[a,b,c,d]) h
theorem Xy (hc:Cx st0 b s st rows) (U:∀st',Cx st0 b s st' rows->K (.ret (.bool (AU s 15 x))) st'):PC 119 [pv b d,.str x] st K:=by
 refine pB Tryz.func119 ?_
 repeat' ((conv=>whnf);(first|refine A6 ?_|refine A7 ?_ ?_|refine A8 ?_ ?_|refine nN ‹_› ?_)<;>intros)
 all_goals conv=>whnf
 all_goals exact At (U _ ‹_›) ‹_›
theorem Xx (hc:Cx st0 b s st rows) (e:AU s 15 x=true) (U:∀st',Cx st0 b s st' rows->K (.ret (.bool true)) st'):PC 119 [pv b d,.str x] st K:=Xy hc (by rw [e];exact U)
theorem bR (hc:Cx st0 b s st rows) (e:AU s 15 x=false) (U:∀st',Cx st0 b s st' rows->K (.ret (.bool false)) st'):PC 119 [pv b d,.str x] st K:=Xy hc (by rw [e];exact U)
theorem pq {Q:Prop} (hc:Cx st0 b s st rows) (h:if AU s 15 x=true then P else Q) (U:∀st',Cx st0 b s st' rows->AU s 15 x=true->P->K (.ret (.bool true)) st') (k2:∀st',Cx st0 b s st' rows->AU s 15 x=false->Q->K (.ret (.bool false)) st'):
 PC 119 [pv b d,.str x] st K:=by
 cases e:AU s 15 x with
 |true=>exact Xx hc e λst' c=>U st' c e (by rw [if_pos e] at h;exact h)
 |false=>exact bR hc e λst' c=>k2 st' c e (by rw [if_neg (by rw [e];decide)] at h;exact h)
theorem pf (k:K (.B0 (fault G1.1)) st):PC 159 [pv b d,.bool false] st K:=by
 refine pB Tryz.func159 ?_
 repeat' ((conv=>whnf);(first|refine A6 ?_|refine A7 ?_ ?_|refine A8 ?_ ?_|refine Cd ?_)<;>intros)
 all_goals exact ⟨_,_,.inl rfl,St.le_refl _,k⟩
theorem pg (k:K (.ret (.Bz [])) st):PC 159 [pv b d,.bool true] st K:=by
 refine pB Tryz.func159 ?_
 repeat' ((conv=>whnf);(first|refine A6 ?_|refine A7 ?_ ?_|refine A8 ?_ ?_|refine Cd ?_)<;>intros)
 all_goals exact ⟨_,_,.inl rfl,St.le_refl _,k⟩
theorem Dr {c:Bool} {Q:Unit->Ad->Prop} (h:Rd.wp (Gs c) s Q E) (e:c=true) (U:Q () s->K (.ret (.Bz [])) st):PC 159 [pv b d,.bool true] st K:=by
 subst e
 unfold Gs at h
 rw [Rd.AD,if_pos rfl,Rd.wp_ret] at h
 exact pg (U h)
theorem Dq {c:Bool} {Q:Unit->Ad->Prop} (h:Rd.wp (Gs c) s Q E) (e:c=false) (U:E G1 s->K (.B0 (fault G1.1)) st):PC 159 [pv b d,.bool false] st K:=by
 subst e
 unfold Gs at h
 rw [Rd.AD,if_neg Do,Rd.D5] at h
 exact pf (U h)
def s8 (st0:St) (b:Nat) (f:FuncId) (args:List V) (A:Rd Nd):Prop:=∀{s:Ad} {st:St} {rows:List (AJ×List Nd)} {K:AA->St->Prop},Cx st0 b s st rows->
 Rd.wp A s (λv s'=>∀st',Cx st0 b s' st' rows->K (.ret (enc v)) st') (λe s'=>∀st',Cy st0 b s' st' rows->K (.B0 (fault e.1)) st')->PC f args st K
theorem AV.z {A:Rd Nd} (h:AV enc f mk A):s8 st0 b f (mk b) A:=h.ap
theorem s8.go {A:Rd Nd} (U:s8 st0 b f args A) (hc:Cx st0 b s st rows) (h:Rd.wp A s Q E)
 (k:∀v s' st',mu s'<=mu s->Cx st0 b s' st' rows->Q v s'->K (.ret (enc v)) st') (kb:∀e s' st',Cy st0 b s' st' rows->E e s'->K (.B0 (fault e.1)) st'):PC f args st K:=
 U hc (Rd.wp_mono h (λv s' r q st' c=>k v s' st' (A.le _ _ _ r) c q) (λe s' _ q st' c=>kb e s' st' c q))
end
theorem Ga (h:P:=by (with_reducible show ∃_,_);first|exact ⟨⟨_,_,_,_⟩,⟨‹_›,Rd.EK ‹_› f7,f9,f7⟩,f7,Yl,St.le_refl _⟩|exact BP (Cx.y ‹_›) ‹_›|exact BP (Cx.y (Cx.drop ‹_›)) ‹_›|exact ai ‹_› ‹_› rfl|exact C6 ‹_› ‹_› rfl|exact C6 ‹_› ‹_› Ca|exact C6 (Cx.drop ‹_›) ‹_› rfl|exact C6 (Cx.drop ‹_›) ‹_› Ca|exact BP ‹_› ‹_›|exact BP (Cy.drop ‹_›) ‹_›|exact BP (Cy.drop (Cy.drop ‹_›)) ‹_›|fail):P:=h
theorem Rn {A:Prop} (k:A) (h:A->P:=by intro k;(with_reducible show Ah _ _ _ _ _ _ _);first|exact Cx.Hj ‹_› i6 k|exact Cx.Hj (Cx.push ‹_› _) i6 k|fail):P:=h k
theorem M1 {A:Prop} (k:A) (h:A->P:=by intro k;(with_reducible show PC _ _ _ _);first|((with_reducible show PC 156 _ _ _);exact YA ‹_› ‹_› k)|((with_reducible show PC 156 _ _ _);exact iF ‹_› ‹_› k)|((with_reducible show PC 119 _ _ _);exact Xx ‹_› ‹_› k)|((with_reducible show PC 119 _ _ _);exact bR ‹_› ‹_› k)|((with_reducible show PC 83 _ _ _);exact QC ‹_› k)|fail):P:=h k
theorem RI {A:Prop} (k:A) (l:B) (h:A->B->P:=by intro k l;(with_reducible show PC _ _ _ _);first|((with_reducible show PC 156 _ _ _);exact iE ‹_› ‹_› k l)|((with_reducible show PC 119 _ _ _);exact pq ‹_› ‹_› k l)|fail):P:=h k l
theorem JK {A:Prop} (k:A) (h:A->P:=by intro k;(with_reducible show PC _ _ _ _);first|((with_reducible show PC 121 _ _ _);exact MS ‹_› ‹_› ‹_› Do k)|((with_reducible show PC 121 _ _ _);exact MT ‹_› ‹_› AC k)|fail):P:=h k
theorem Jx {A:Prop} (k:A) (l:B) (h:A->B->P:=by intro k l;(with_reducible show PC _ _ _ _);first|((with_reducible show PC 121 _ _ _);exact GJ.go ‹_› ‹_› k l)|((with_reducible show PC 118 _ _ _);exact UB.go ‹_› ‹_› k l)|fail):P:=h k l
theorem vj {A:Prop} (k:A) (h:A->P:=by intro k;(with_reducible show PC _ _ _ _);first|((with_reducible show PC 171 _ _ _);exact RL ‹_› ‹_› k)|fail):P:=h k
theorem Ro {A:Prop} (k:A) (h:A->P:=by intro k;(with_reducible show PC _ _ _ _);first|((with_reducible show PC 122 _ _ _);exact lB k)|((with_reducible show PC 122 _ _ _);exact lC k)|((with_reducible show PC 122 _ _ _);exact lD k)|((with_reducible show PC 122 _ _ _);exact lE k)|((with_reducible show PC 122 _ _ _);exact KV k)|fail):P:=h k
theorem Mn {A:Ad->Rs} {hle:∀s v s',A s=.inr (v,s')->mu s'<=mu s} (U:E1 A) (hf:Dd g (d:Int) A) (h0:d=0->∀s,A s=.inl (2,s)):
 AV enc 84 (λb=>[.ptr b 0,.func g [] [],.int .i64 (d:Int)]) (Jf A hle):=⟨λhc h=>Qg (d:=d) rfl hf h0 U hc.mu hc.has (Xr U hc h)⟩
theorem RZ (U:1<=d) (h:d<=100):Dt (d:Int)=d:=by unfold Dt;split<;>omega
theorem eo (h:(F9 ks).run s=.inr (n,s')):∃o x c,n=Aq 3 [o,x,c]:=by
 unfold F9 at h
 obtain ⟨o,s1,_,h⟩:=AO h
 obtain ⟨x,s2,_,h⟩:=AO h
 obtain ⟨c,U,_,h⟩:=AO h
 cases h
 exact ⟨o,x,c,rfl⟩
section
variable {st0 st:St} {b d:Nat} {s:Ad} {rows:List (AJ×List Nd)} {K:AA->St->Prop}
attribute [local irreducible] Go.Aw.Ah
theorem lp (U:1<=d) (h:d<=100):AV enc 365 (λb=>[pv b d]) (HV d):=by
 have hi:=Mn (hle:=λs v s' h=>Nat.le_of_lt (BI (Bo _) _ _ _ h)) (GP (E7 (d - 1))) (by have:=te (deep:=(d:Int));rw [RZ U h] at this;exact this) (λe=>by omega)
 refine ⟨λ{st0 b s st rows K} hc h=>?_⟩
 unfold HV at h
 refine pB Tryz.func365 ?_
 repeat' ((conv=>whnf);(first|refine A6 ?_|refine A7 ?_ ?_|refine A8 ?_ ?_|exact Ga|refine Ac ?_|refine FG.go (by first|exact AV.q) ?_ ?_)<;>intros)
theorem pw (U:1<=d) (h:d<=100):AV enc 158 (λb=>[pv b d]) (MX d):=by
 have hi:=Mn (hle:=λs v s' h=>Nat.le_of_lt (FP (BI (Bo _)) _ _ _ h)) (L0 (GP (E7 (d - 1)))) (by have:=uJ (deep:=(d:Int));rw [RZ U h] at this;exact this) (λe=>by omega)
 refine ⟨λ{st0 b s st rows K} hc h=>?_⟩
 unfold MX at h
 refine pB Tryz.func158 ?_
 repeat' ((conv=>whnf);(first|refine A6 ?_|refine A7 ?_ ?_|refine A8 ?_ ?_|exact Ga|refine Ac ?_|refine FG.go (by first|exact AV.q) ?_ ?_)<;>intros)
theorem eR (U:1<=d) (h:d<=100):AV enc 161 (λb=>[pv b d]) (GN d):=by
 have hi:=Mn (hle:=λs v s' h=>Nat.le_of_lt (E8 (BI (Bo _)) _ _ _ h)) (Lp (GP (E7 (d - 1)))) (by have:=ub (deep:=(d:Int));rw [RZ U h] at this;exact this) (λe=>by omega)
 refine ⟨λ{st0 b s st rows K} hc h=>?_⟩
 unfold GN at h
 refine pB Tryz.func161 ?_
 repeat' ((conv=>whnf);(first|refine A6 ?_|refine A7 ?_ ?_|refine A8 ?_ ?_|exact Ga|refine Ac ?_|refine FG.go (by first|exact AV.q) ?_ ?_)<;>intros)
theorem ly (U:1<=d) (h:d<=100):AV enc 173 (λb=>[pv b d]) (C7 d):=by
 have hi:=Mn (hle:=λs v s' h=>Nat.le_of_lt (PZ (BI (Bo _)) _ _ _ h)) (RM (GP (E7 (d - 1)))) (by have:=qe (deep:=(d:Int));rw [RZ U h] at this;exact this) (λe=>by omega)
 refine ⟨λ{st0 b s st rows K} hc h=>?_⟩
 unfold C7 at h
 refine pB Tryz.func173 ?_
 repeat' ((conv=>whnf);(first|refine A6 ?_|refine A7 ?_ ?_|refine A8 ?_ ?_|exact Ga|refine Ac ?_|refine FG.go (by first|exact AV.q) ?_ ?_)<;>intros)
theorem Hi {own:AJ} (U:ks.contains 0=false):AV enc 193 (λb=>[pv b d,.slice 1 (ints ks) own]) (F9 ks):=by
 refine ⟨λ{st0 b s st rows K} hc h=>?_⟩
 simp only [F9,Rd.wp_seq,Rd.wp_ret] at h
 refine pB Tryz.func193 ?_
 repeat' ((conv=>whnf);(first|exact CU|refine A6 ?_|(refine CV ?_ ?_ ?_;rotate_left)|refine A7 ?_ ?_|refine A8 ?_ ?_|refine Jx ?_ ?_|exact Ga|refine Ro ?_|refine Ac ?_|refine FG.go (by first|exact AV.q|exact (Eo U).a) ?_ ?_|refine Af [(0,true),(1,true),(3,true),(4,true),(5,true),(7,true),(8,true),(2,false),(6,false),(9,false),(10,true),(11,false),(12,false)] [1] GE ?_|with_reducible refine WF ?_)<;>intros)
theorem ek {own:AJ} (h0:ks.contains 0=false) (hc:Cx st0 b s st rows) (h:Rd.wp (F9 ks) s Q E)
 (k:∀o x c s' st',mu s'<=mu s->Cx st0 b s' st' rows->Q (Aq 3 [o,x,c]) s'->K (.ret (enc (Aq 3 [o,x,c]))) st') (kb:∀e s' st',Cy st0 b s' st' rows->E e s'->K (.B0 (fault e.1)) st'):PC 193 [pv b d,.slice 1 (ints ks) own] st K:=
 (Hi h0).go hc h (λn s1 U hr hm hc h=>by obtain ⟨o,x,c,rfl⟩:=eo hr;exact k o x c s1 U hm hc h) kb
theorem NI:AV enc 172 (λb=>[pv b d]) NA:=by
 refine ⟨λ{st0 b s st rows K} hc h=>?_⟩
 simp only [NA,Rd.Al,Rd.AD,Rd.wp_seq,Rd.wp_ret,Rd.GX] at h
 have U:=hc.mu
 refine pB Tryz.func172 ?_
 repeat' ((conv=>whnf);(first|refine GQ ‹_› ?_ ?_|refine A6 ?_|refine A7 ?_ ?_|refine A8 ?_ ?_|refine M1 ?_|refine RI ?_ ?_|refine Cd ?_|exact Ga|refine Ac ?_|refine FG.go (by first|exact AV.q|exact (Eo (ks:=[1]) rfl).a) ?_ ?_|refine Pv (Cx.has ‹_›) ?_ ?_|refine ek (ks:=[5,6]) rfl ‹_› ‹_› ?_ ?_|refine Wm (ks:=[_,_,_]) rfl AC ?_|refine F5 ‹_› U ?_|refine Cd ?_)<;>intros)
theorem Q6:AV enc 194 (λb=>[pv b d]) OW:=by
 refine ⟨λ{st0 b s st rows K} hc h=>?_⟩
 simp only [OW,Rd.Al,Rd.AD] at h
 refine pB Tryz.func194 ?_
 repeat' ((conv=>whnf);(first|refine A6 ?_|refine A7 ?_ ?_|refine A8 ?_ ?_|refine M1 ?_|refine RI ?_ ?_|exact Ga|refine Ac ?_|refine FG.go (by first|exact AV.q|exact (Eo (ks:=[1,2]) rfl).a|exact (Hi (ks:=[5,6]) rfl).a) ?_ ?_)<;>intros)
end
end Go.Proofs.Z
