/-
  Parts of a proof: lemmas that the last text uses.
-/
import Derived.Test.YtpaiiicnhgoijaaGreatDoorT9
set_option linter.unusedVariables false
set_option linter.unusedSimpArgs false
set_option maxHeartbeats 16000000
variable {st0 S st':Go.Aw.St} {b i cap:Nat} {s r m x:List UInt8} {rows:List (Go.Aw.Ay×List Go.Aw.Nd)} {cs C args:List Go.Aw.V} {l:List Go.Aw.Nd} {Q:Go.Aw.Nd->Go.Proofs.Z.Af->Prop} {g f:Go.FuncId} {deep D kd h:Int} {L:Go.Proofs.Z.DL} {K:Go.Aw.V->Go.Aw.St->Prop} {n o:Go.Aw.Nd} {σ β:Type} {ih:(Go.Aw.AG->Go.Aw.Env->Go.Aw.St->Prop)->Go.Aw.Env->Go.Aw.St->Prop} {Q0:Go.Aw.AG->Go.Aw.Env->Go.Aw.St->Prop} {env:Go.Aw.Env} {keep:List Nat}
namespace Go.Proofs.Z
open Go Go.Aw
theorem Cx.uv {st:St} {c:Nat} {s:Af} {cs':List V} (h:Cx (st0.Ab c cs) b s st rows) (U:c≠b):Cx (st0.Ab c cs') b s (st.Ab c cs') rows:=by
 obtain ⟨c0,hr⟩:=h.rx
 refine ⟨?_,⟨c0,?_⟩,h.mu⟩
 .rcases h.has with e|⟨q1,q2,q3,q4,q5,e⟩
  .exact .inl (by rw [St.AH U];exact e)
  .exact .inr ⟨q1,q2,q3,q4,q5,by rw [St.AH U];exact e⟩
 .rw [Tb U] at hr |-
  exact hr.Ab
section
variable {st0 st:St} {b d c:Nat} {s:Af} {rows:List (Ay×List Nd)} {K R:AD->St->Prop} {A B C D E F:Rd Nd}
attribute [local irreducible] Go.Aw.Ai
theorem te (h1:Bi enc 86 (λb=>[pv b d]) JP) (h2:Bi enc 87 (λb=>[pv b d]) (J7 B C)) (h3:Bi enc 88 (λb=>[pv b d]) (TW A B C)) (h4:Bi enc 89 (λb=>[pv b d]) (JV A B C))
 (h5:Bi enc 90 (λb=>[pv b d]) (OU B F)) (h6:Bi enc 91 (λb=>[pv b d]) (HZ B F)) (h7:Bi enc 92 (λb=>[pv b d]) (HX C)) (h8:Bi enc 93 (λb=>[pv b d]) (JJ D))
 (he:Bi enc 84 (λb=>[.ptr b 0,.func 85 [] [],.int .i64 (d:Int)]) E):Bi enc 40 (λb=>[pv b d]) (Tg A B C D E F):=by
 refine ⟨λ{st0 b s st rows K} hc h=>?_⟩
 simp only [Tg,Rd.Ag,Rd.Ao] at h
 have U:=hc.mu
 refine pB Tryz.func40 ?_
 repeat' ((conv=>whnf);(first|  refine Ej ?_ ?_|refine fN ?_|exact HE|refine GJ.go (by first|exact Bi.q) ?_ ?_)<;>intros)
theorem kJ {c2:Nat} {E:Er->Af->Prop} (ht:Bi enc 40 (λb=>[pv b d]) A) (hF:Rd.AZ A) (f2:st0.box c2=none/\c2≠b)
 (hc:Cx (st0.Ab c2 [.bool (l.any λx=> !(x.kind==50))]) b s st rows) (h:Rd.wp (Nv A l) s Q E)
 (k:∀n s1 U,mu s1<mu s->Cx (st0.Ab c2 [.bool ((l++[n]).any λx=> !(x.kind==50))]) b s1 U rows->Q n s1->K (.ret (enc n)) U)
 (kb:∀e s1 U,Cy st0 b s1 U rows->E e s1->K (.Ci (fault e.1)) U):PC 71 [xX b d,.ptr c2 0] st K:=by
 simp only [Nv,Rd.Ag,Rd.wp_seq,Rd.Ao,Rd.wp_ret,Rd.Df] at h
 simp only [List.any_append,List.any_cons,List.any_nil,Bool.or_false] at k
 have hmu:=hc.mu
 generalize (l.any λx=> !(x.kind==50))=o at hc h k
 refine AQ Ac [] Tryz.func71 rfl IR rfl ?_
 refine Ah (Aj Ac ?_)
 repeat' ((conv=>whnf);(first|refine AV ?_|fail)<;>intros)
 refine Ah (Aj Ac ?_)
 repeat' ((conv=>whnf);first|(refine AV ?_;intros)|refine CL ?_|refine Rq hc.has ?_ (λt u o1 o2 e=>?_))
 all_goals refine Ah (Aj Ac ?_)
 all_goals (repeat' ((conv=>whnf);first|(refine AV ?_;intros)|refine CL ?_|refine Bi.Tr ht hF hc h (λn s1 U hr hm hc h=>?_) (λe s1 U hc h=>?_)|exact ⟨_,_,.inl rfl,St.le_refl _,kb _ _ _ (hc.unbox f2) h⟩|fail))
 all_goals cases hk:n.kind==50
 all_goals cases o
 all_goals simp only [hk,Bool.and_false,Bool.and_true,Bool.false_and,Bool.true_and,Bool.false_eq_true,if_false,if_true] at h
 all_goals have hk2:=hk
 all_goals simp only [beq_iff_eq,beq_eq_false_iff_ne] at hk2
 all_goals refine Aj Ac ?_
 all_goals (repeat' ((conv=>whnf);first|(refine AV ?_;intros)|refine AK (Cx.boxed hc f2) ?_|refine He hc hmu (λU hc=>?_)|refine CL ?_|exact AU rfl (k _ _ _ hm (by rw [hk]<;>exact Cx.uv hc f2.2) h)|exact AU rfl (k _ _ _ hm (by exact Cx.uv hc f2.2) h)|exact ⟨_,_,.inl rfl,St.le_refl _,kb _ _ _ (hc.y.unbox f2) h⟩|fail))
theorem R0 {X:Af->Rs} {hle:∀s v s',X s=.inr (v,s')->mu s'<=mu s} (h:∀s v s',X s=.inr (v,s')->mu s'<mu s):Rd.AZ (Ly X hle):=λs v s' e=>h s v s' (by
 unfold Ly at e
 dsimp only at e
 split at e
 .split at e<;>cases e
 .rename_i U;rw [U];injection e with e;rw [e])
theorem yn {A:Rd Nd} {hle:∀s v s',DC A s=.inr (v,s')->mu s'<=mu s} {E:Er->Af->Prop} (h:Rd.wp A s Q E):Rd.wp (Ly (DC A) hle) s Q E:=by
 have e:(Ly (DC A) hle).run s=A.run s:=by
  unfold Ly DC
  dsimp only
  cases U:A.run s with
  |inl p=>simp only [U];rw [dif_neg p.1.2]
  |inr p=>simp only [U]
 unfold Rd.wp at h |-
 rw [e];exact h
theorem tZ {A:Rd Nd} (hf:DV g (d:Int) (DC A)) (h0:d=0->∀s,DC A s=.inl (2,s)):Bi enc 84 (λb=>[.ptr b 0,.func g [] [],.int .i64 (d:Int)]) A:=
 ⟨λ{st0 b s st rows K} hc h=>(N2 (A:=DC A) (hle:=λs v s' e=>by
   unfold DC at e
   split at e
   .cases e
   .rename_i p hp;cases e;exact A.le _ _ _ hp) (λs e s' U=>by
   unfold DC at U
   split at U
   .rename_i p hp;cases U;exact p.1.2
   .cases U) hf h0).ap hc (yn h)⟩
theorem gS (U:1<=d) (h1:d<=100):Bi enc 84 (λb=>[.ptr b 0,.func 85 [] [],.int .i64 (d:Int)]) (RG d):=
 tZ (λs hm st R h=>tA (deep:=(d:Int)) hm (by rw [NQ U h1];exact h)) (λe=>by omega)
theorem bz (U:d<=100):Bi enc 84 (λb=>[.ptr b 0,.func 228 [] [],.int .i64 (d:Int)]) (M3 d):=
 tZ (λs hm st R h=>pF (deep:=(d:Int)) hm (by
  cases d with
  |zero=>exact h
  |succ d=>rw [NQ (Nat.succ_le_succ (Nat.zero_le d)) U];exact h)) (λe=>by subst e;intro s;rfl)
theorem fC (h0:1<=d) (U:d<=100):Bi enc 40 (λb=>[pv b d]) (Tf d):=by
 have ha:=oP h0 U
 have hr:=s9 h0 U
 have hw:=jx h0 U
 have hA:Rd.AZ (G5 d):=R0 λs v s' e=>BL (Bv _) _ _ _ e
 have hc:=cP hA (pf ha) (js (Th ha) hw)
 have hd:Bi enc 84 (λb=>[.ptr b 0,.func 228 [] [],.int .i64 ((d:Int) - 1)]) (M3 (d - 1)):=by
  have:=bz (d:=d - 1) H1
  rwa [show (((d - 1:Nat)):Int)=(d:Int) - 1 by omega] at this
 exact te ZN (ZX hr hw Pz) (oR hc hr) (ZQ hc hr) (jl hr hd U) (Xb hr hd U) (W7 hw) (ZM (oV h0 U)) (gS h0 U)
theorem jk (ht:Bi enc 40 (λb=>[pv b d]) A) (hF:Rd.AZ A):Bi enc 28 (λb=>[pv b d]) (FR A):=by
 refine ⟨λ{st0 b s st rows K} hc h=>?_⟩
 refine AQ Ac [] Tryz.func28 rfl IR rfl ?_
 refine Ah (Aj Ac ?_)
 repeat' ((conv=>whnf);(first|  fail)<;>intros)
 refine UW 1 0 rfl rfl rfl ?_
 refine Ah (Aj Ac ?_)
 repeat' ((conv=>whnf);(first|  fail)<;>intros)
 refine MP 3 2 rfl rfl rfl (λc fc=>?_)
 have U:=hc.Vt fc
 have hc:=hc.V5 (cs:=[.bool false]) fc
 have hB:∀{K:AD->St->Prop},Rd.wp (FR A) s (λn s'=>∀(l:List Nd) st',Cx (st0.Ab c [.bool (l.any λx=> !(x.kind==50))]) b s' st' rows->K (.ret (enc n)) st') (λe s'=>∀st',Cy st0 b s' st' rows->K (.Ci (fault e.1)) st')->PC 69 [.ptr b 0,.func 70 [] [],.func 71 [] [xX b d,.ptr c 0]] (st.Ab c [.bool false]) K:=λh=>
  TQ (fs:=[]) (cs:=[xX b d,.ptr c 0]) (starts:=Qf) (base:=λl=>st0.Ab c [.bool (l.any λx=> !(x.kind==50))]) (item:=Nv A) (λk=>jw k)
   (λl s st rows K Q E hc h k kb=>kJ ht hF U hc h k kb) (λhc=>hc.unbox U) hc h
 refine Aj Ac ?_
 repeat' ((conv=>whnf);first|  refine hB (Rd.wp_mono h (λv s' r q l st' hk=>?_) (λe s' r q st' hk=>?_))|exact DR (hk.unbox U) q rfl|exact DR (hk.unbox U) q Ck|exact Ch hk q|fail)
theorem cO (U:1<=d) (h1:d<=100):Bi enc 28 (λb=>[pv b d]) (DT d):=jk (fC U h1) (R2 d)
end
section
variable {st0 st:St} {b d c:Nat} {s:Af} {K R:AD->St->Prop}
theorem ta {A:Rd Nd} (hA:Bi enc g (λb=>[pv b d]++cs) A) (hx:st.box c=some [.func g [] cs]) (hs:Has st b s) (hm:mu s<=100000000) (ht:Fv st b K (DC A s)):PC 68 [.ptr b 0,.int .i64 (d:Int),.ptr c 0] st K:=by
 have U:∀{K:AD->St->Prop},Fv st b K (DC A s)->PC g ([pv b d]++cs) st K:=λh=>ZK hA hs hm h
 refine pB Tryz.func68 ?_
 unfold DC at *
 cases hr:A.run s with
 |inl p=>
  rw [hr] at ht U
  repeat' ((conv=>whnf);first|  refine AK hx ?_|refine Bq.2 ?_|refine U (λst1 hu=>?_))
  all_goals exact ⟨_,_,.inl rfl,St.le_refl _,ht _ hu⟩
 |inr p=>
  rw [hr] at ht U
  repeat' ((conv=>whnf);first|  refine AK hx ?_|refine Bq.2 ?_|refine U (λst1 hu=>?_))
  all_goals exact AU rfl (ht _ hu)
theorem pg {A:Nat->Rd Nd} (hA:∀d:Nat,1<=d->d<=100->Bi enc g (λb=>[pv b d]++cs) (A d)) (hm:mu s<=100000000) (h:K (.ret (ME (C5 s deep (DC (A (B0 deep)) s)))) st):
 PC 27 [Am s,.int .i64 deep,.func g [] cs] st K:=by
 refine AQ Ac [] Tryz.func27 rfl IR rfl ?_
 refine Ah (Aj Ac ?_)
 repeat' ((conv=>whnf);(first|  fail)<;>intros)
 refine MP 5 1 rfl rfl rfl (λc fc=>?_)
 refine Aj Ac ?_
 have hq:¬deep<1->∀(b:Nat) (U:St) (R:AD->St->Prop),(st.Ab c [.func g [] cs]).le U->Has U b s->Fv U b R (DC (A (B0 deep)) s)->PC 68 [.ptr b 0,.int .i64 (if 100<deep then 100 else deep),.ptr c 0] U R:=λhd b U R hle hs ht=>by
  have e:(if 100<deep then 100 else deep)=((B0 deep:Nat):Int):=by unfold B0;split<;>omega
  rw [e]
  exact ta (hA _ (by unfold B0;split<;>omega) (by unfold B0;split<;>omega)) (hle.1 _ _ (St.As ..)) hs hm ht
 obtain ⟨n,s',e,hq3⟩:∃n s' e,C5 s deep (DC (A (B0 deep)) s)=(n,s',e):=⟨_,_,_,rfl⟩
 rw [hq3] at h
 have hcat:∀{K:AD->St->Prop},K (.ret (XR n s' e)) (st.Ab c [.func g [] cs])->PC 67 [Am s,.int .i64 deep,.func 68 [] [.ptr c 0]] (st.Ab c [.func g [] cs]) K:=λk=>dv (s:=s) (q:=DC (A (B0 deep)) s) hq (by rw [hq3];exact k)
 repeat' ((conv=>whnf);(first|  refine hcat ?_)<;>intros)
 all_goals exact CS (St.Av (St.le_refl _) fc.1 _) rfl h
theorem UR (hm:mu s<=100000000) (h:K (.ret (ME (C5 s deep (DC (DT (B0 deep)) s)))) st):PC 12 [Am s,.int .i64 deep] st K:=by
 refine pB Tryz.func12 ?_
 repeat' ((conv=>whnf);(first|  refine pg (s:=s) (cs:=[]) (A:=DT) (λd U h1=>cO U h1) hm ?_)<;>intros)
 all_goals exact AU rfl h
theorem tB (hm:mu s<=100000000) (h:K (.ret (ME (C5 s deep (DC (Tf (B0 deep)) s)))) st):PC 18 [Am s,.int .i64 deep] st K:=by
 refine pB Tryz.func18 ?_
 repeat' ((conv=>whnf);(first|  refine pg (s:=s) (cs:=[]) (A:=Tf) (λd U h1=>fC U h1) hm ?_)<;>intros)
 all_goals exact AU rfl h
end
def aC (l:List Tk):Prop:=∀t ∈ l,t.text.length<=100000000/\ -1000000000<=t.line/\t.line<=1000000000
theorem aC.at {l:List Tk} (h:aC l) {t:Tk} (e:l[i]? =some t):t.text.length<=100000000/\ -1000000000<=t.line/\t.line<=1000000000:=h t (List.mem_of_getElem? e)
theorem uJ {L:Nat} {r:Loop} {Im:Mem} {v:V} {m m':Int} {st:St} {K U:St->Prop} (h:YS Tryz.prog L r Im [v,.int .i64 m'] st K) (e:m'=m) (k:∀st,K st->U st):YS Tryz.prog L r Im [v,.int .i64 m] st U:=by subst e;exact h.mono k
section
variable {st:St} {l:List Tk} {own:Ay} {c L:Nat} {r:Loop} {Im:Mem}
attribute [local irreducible] Go.Aw.Ai
theorem vG (hok:aC l) (hn:l.length<=100000000) {J:Nat->St->Prop} (hJ:∀i st,J i st->st.box c=some [.slice 4 (Bb l) own]) (hY:∀i st,i<l.length->J i st->YS Tryz.prog L r Im [.int .i64 (i:Int),.int .i64 (Gt l i)] st (J (i+1))) (h0:J 0 st)
 {I:Mem} {w:World} {cargs:List Value} (hm:Im.le I) (hs:Db I st w) (U:Ar I [.ptr c 0] cargs) (hl:w.heap[L]? =some (.loop r)) (hi:Idle L st):
 Calls Tryz.prog 150 (Value.func (.yield L) #[] #[]::cargs).toArray w λe w'=>(∃v,e=.returned v)/\∃I' st',Fr I st w I' st' w'/\Db I' st' w'/\J l.length st':=by
 refine U8 Ac Tryz.func150 rfl rfl (r:=r) (Im:=Im) (args:=[.jU L,.ptr c 0]) (K:=J l.length) rfl ?_ hm hs (by
  simp only [Ar] at U |-
  exact ⟨_,_,rfl,by simp only [A0],U⟩) hl hi
 have hb:=hJ 0 st h0
 refine Hb (Rb.of (Aj Ac ?_))
 repeat' ((conv=>whnf);first|exact B1|(refine Bc ?_;intros)|(refine B2 ?_ ?_ ?_;rotate_left)|(refine CD ?_ ?_<;>intro _)|refine AK hb ?_|fail)
 refine TI ?_
 refine jW ?_
 refine Lt (α:=Nat×St) (λx=>[(8,.int .i64 (x.1:Int))]) (λ_=>[]) [0,1,6,7] [] (λx=>x.2) (λx=>x.1<=l.length/\J x.1 x.2) (λx=>l.length - x.1) (0,st) ⟨Nat.zero_le _,h0⟩ Yl (St.le_refl _) ?_
 rintro ⟨i,st1⟩ ⟨hi1,hj⟩
 dsimp only at hi1 hj |-
 have hb1:=hJ i st1 hj
 refine Hb (Rb.of (Aj Ac ?_))
 by_cases hlt:i<l.length
 .obtain ⟨t,ht⟩:∃t,l[(i:Int).toNat]? =some t:=⟨_,List.getElem?_eq_getElem H1⟩
  have ht':l[i]? =some t:=ht
  have hlt2:(i:Int)<(l.length:Int):=H1
  repeat' ((conv=>whnf);first|exact B1|(refine Bc ?_;intros)|(refine B2 ?_ ?_ ?_;rotate_left)|(refine CD ?_ ?_<;>intro _)|fail)
  refine Hb (Rb.of (Aj Ac ?_))
  repeat' ((conv=>whnf);first|exact B1|(refine Bc ?_;intros)|(refine B2 ?_ ?_ ?_;rotate_left)|(refine CD ?_ ?_<;>intro _)|fail)
  refine Hb ?_
  refine TI ?_
  refine Hb (Rb.of (Aj Ac ?_))
  repeat' ((conv=>whnf);first|exact B1|(refine Bc ?_;intros)|(refine B2 ?_ ?_ ?_;rotate_left)|(refine CD ?_ ?_<;>intro _)|fail)
  refine Hb (Rb.of (Aj Ac ?_))
  repeat' ((conv=>whnf);first|exact B1|(refine Bc ?_;intros)|(refine B2 ?_ ?_ ?_;rotate_left)|(refine CD ?_ ?_<;>intro _)|fail)
  have hy:=hY i st1 hlt hj
  refine Hb (Rb.of (Aj Ac ?_))
  have ho:=hok.at ht'
  clear hY U hs hm hl hi
  by_cases hz:i=0
  .subst hz
   have hma:Gt l 0=if (bB t 9 [109,111,100,117,108,101]||bB t 15 [123])=true then 17 else 16:=by unfold Gt;rw [ht'];rfl
   repeat' ((conv=>whnf);first|exact B1|(refine Bc ?_;intros)|(refine B2 ?_ ?_ ?_;rotate_left)|(refine CD ?_ ?_<;>intro _)|refine uh ?_|fail)
   all_goals refine Hb (dj Ac 3 rfl rfl rfl rfl rfl ?_)
   all_goals (repeat' ((conv=>whnf);first|exact B1|(refine Bc ?_;intros)|(refine B2 ?_ ?_ ?_;rotate_left)|(refine CD ?_ ?_<;>intro _)|refine ⟨rfl,?_⟩|refine uJ hy (by rw [hma]<;>simp [*]) (λst2 hj2=>?_)|fail))
   all_goals refine Rb.of (Aj Ac ?_)
   all_goals (repeat' ((conv=>whnf);first|exact B1|(refine Bc ?_;intros)|(refine B2 ?_ ?_ ?_;rotate_left)|(refine CD ?_ ?_<;>intro _)|fail))
   all_goals refine Rb.of (Aj Ac ?_)
   all_goals (repeat' ((conv=>whnf);first|exact B1|(refine Bc ?_;intros)|(refine B2 ?_ ?_ ?_;rotate_left)|(refine CD ?_ ?_<;>intro _)|fail))
   all_goals conv=>whnf
   all_goals exact ⟨(0+1,st2),⟨hlt,hj2⟩,f9,Yl,St.le_refl _⟩
  .obtain ⟨p,hp⟩:∃p,l[((i:Int) - 1).toNat]? =some p:=⟨_,List.getElem?_eq_getElem H1⟩
   have hp':l[i - 1]? =some p:=by rw [<-hp];congr 1;omega
   have hop:=hok.at hp'
   have hma:Gt l i=Ys (some p) t:=by unfold Gt ahead;rw [ht',if_neg hz,hp']
   unfold Ys at hma
   have hz2:¬(i:Int)=0:=H1
   repeat' ((conv=>whnf);first|exact B1|(refine Bc ?_;intros)|(refine B2 ?_ ?_ ?_;rotate_left)|(refine CD ?_ ?_<;>intro _)|refine AK hb1 ?_|refine uh ?_|refine Su ?_|refine vg hop.1 hop.2.1 hop.2.2 ?_|refine Ad 21 [17] [] ?_|fail)
   all_goals refine Hb (dj Ac 3 rfl rfl rfl rfl rfl ?_)
   all_goals (repeat' ((conv=>whnf);first|exact B1|(refine Bc ?_;intros)|(refine B2 ?_ ?_ ?_;rotate_left)|(refine CD ?_ ?_<;>intro _)|refine ⟨rfl,?_⟩|refine uJ hy (by rw [hma]<;>simp [*]) (λst2 hj2=>?_)|fail))
   all_goals refine Rb.of (Aj Ac ?_)
   all_goals (repeat' ((conv=>whnf);first|exact B1|(refine Bc ?_;intros)|(refine B2 ?_ ?_ ?_;rotate_left)|(refine CD ?_ ?_<;>intro _)|fail))
   all_goals refine Rb.of (Aj Ac ?_)
   all_goals (repeat' ((conv=>whnf);first|exact B1|(refine Bc ?_;intros)|(refine B2 ?_ ?_ ?_;rotate_left)|(refine CD ?_ ?_<;>intro _)|fail))
   all_goals conv=>whnf
   all_goals exact ⟨(i+1,st2),⟨hlt,hj2⟩,f9,Yl,St.le_refl _⟩
 .have hlt2:¬(i:Int)<(l.length:Int):=H1
  obtain rfl:i=l.length:=H1
  repeat' ((conv=>whnf);first|exact B1|(refine Bc ?_;intros)|(refine B2 ?_ ?_ ?_;rotate_left)|(refine CD ?_ ?_<;>intro _)|fail)
  refine Hb (Rb.of (Aj Ac ?_))
  repeat' ((conv=>whnf);first|exact B1|(refine Bc ?_;intros)|(refine B2 ?_ ?_ ?_;rotate_left)|(refine CD ?_ ?_<;>intro _)|fail)
  all_goals conv=>whnf
  all_goals exact ⟨.inl rfl,hj⟩
end
end Go.Proofs.Z
namespace Go.Aw
theorem Ay.Pu {own:Ay} {n:Nat}:(own.st S n).box=S.box:=by cases own<;>rfl
theorem Ay.WX {own:Ay} {n:Nat}:(own.st S n).Ab b C=own.st (S.Ab b C) n:=by cases own<;>rfl
theorem ZE {own:Ay} {n:Nat}:(own.st (S.Ab b C) n).box b=some C:=by rw [Ay.Pu];simp [St.Ab]
theorem Ay.JM {own:Ay} (h:own.B5 S) (hb:S.box b≠none):own.B5 (S.Ab b C):=by
 cases own with
 |any=>exact h
 |full=>exact trivial
 |tok t=>
  have h:S.fresh t:=h
  refine (show (S.Ab b C).fresh t from ⟨?_,h.2⟩)
  have:t≠b:=by rintro rfl;exact hb h.1
  simp only [St.Ab]
  rw [if_neg this];exact h.1
theorem Ay.Si {own:Ay} {D:List V} (h:own.B5 (S.Ab b C)):own.B5 (S.Ab b D):=by
 cases own with
 |any=>exact h
 |full=>exact trivial
 |tok t=>
  have h:(S.Ab b C).fresh t:=h
  refine (show (S.Ab b D).fresh t from ⟨?_,h.2⟩)
  have U:=h.1
  simp only [St.Ab] at U |-
  split at U
  .cases U
  .rename_i e;rw [if_neg e];exact U
end Go.Aw
namespace Go.Proofs.Z
open Go Go.Aw
theorem Hd (l:List Tk):(Bb l).length=l.length:=by unfold Bb;rw [List.length_map]
theorem NG {l:List Tk} {x:Tk} {own:Ay} {st:St} (h:own.B5 st) (hb:l.length+1<=1000000000)
 (k:∀U:Ay,U.B5 st->K (.slice 4 (Bb (l++[x])) U) (U.st st ((l++[x]).length*4))):Ai 4 40 (Bb l) own [x.cells] (own.st st (l.length*4)) K:=by
 have:=HH (sz:=4) (bytes:=40) (es:=Bb l) (new:=[x.cells]) (K:=K) h (by rw [Hd];show (l.length+1)*40<=_;omega) (by rw [Hd];show l.length+1<Fk;simp only [Fk];omega) rfl (λU ho=>by
  have:=k U ho
  rw [Hd]
  have e:Bb l++[x.cells].map (·.map V.K8)=Bb (l++[x]):=by unfold Bb;rw [List.map_append];rfl
  rw [e]
  rw [List.length_append] at this
  exact this)
 rw [Hd] at this
 exact this
abbrev xf (m:Int) (t:Tk):Tk:=⟨m,[],t.line,t.Da⟩
theorem gh {st:St} {K:AD->St->Prop} {c:Bool} (hf:∀(st:St) (K:AD->St->Prop),K (.ret (.bool c)) st->PC f args st K) (e:c=true) (k:K (.ret (.bool true)) st):PC f args st K:=hf st K (by rw [e];exact k)
theorem kK {st:St} {K:AD->St->Prop} {c:Bool} (hf:∀(st:St) (K:AD->St->Prop),K (.ret (.bool c)) st->PC f args st K) (e:c=false) (k:K (.ret (.bool false)) st):PC f args st K:=hf st K (by rw [e];exact k)
theorem JA {st:St} {c:Nat} (h:b≠c):(st.Ab b cs).box c=st.box c:=by simp [St.Ab,Ne.symm h]
theorem p7 {l:List Tk} {x:Tk} {own:Ay} (h:own.B5 (S.Ab b C)) (hb:l.length+1<=1000000000)
 (k:∀U:Ay,U.B5 (S.Ab b C)->K (.slice 4 (Bb (l++[x])) U) (U.st (S.Ab b C) ((l++[x]).length*4))):Ai 4 40 (Bb l) own [x.cells] ((own.st S (l.length*4)).Ab b C) K:=by
 rw [Ay.WX];exact NG h hb k
theorem Sr:∀(a:List Tk) (p:Option Tk) (t:Tk),EL p (a++[t])=EL p a++markT (Ys (a.getLast?.or p) t) t
 |[],p,t=>by simp [EL]
 |x::r,p,t=>by
  rw [List.cons_append,EL,Sr r (some x) t,EL,List.append_assoc]
  congr 3
  cases r with
  |nil=>rfl
  |cons y r=>rw [List.getLast?_cons_cons];cases h:(y::r).getLast? with
   |none=>simp at h
   |some z=>rfl
theorem Ma:∀(a:List Tk) (p:Option Tk),(EL p a).length<=2*a.length
 |[],p=>Nat.le_refl _
 |x::r,p=>by
  have:=Ma r (some x)
  rw [EL,List.length_append,List.length_cons]
  unfold markT
  split<;>simp only [List.length_cons,List.length_nil]<;>omega
theorem bN {l:List Tk} {t:Tk} (h:l[i]? =some t):EL none (l.take (i+1))=EL none (l.take i)++markT (Gt l i) t:=by
 have U:=(List.getElem?_eq_some_iff.1 h).1
 have e:l.take (i+1)=l.take i++[t]:=by rw [List.take_add_one,h];rfl
 rw [e,Sr]
 congr 3
 unfold Gt ahead
 rw [h]
 dsimp only
 congr 1
 cases i with
 |zero=>rfl
 |succ i=>
  rw [if_neg H1,List.getLast?_take,if_neg H1]
  have:l[i+1 - 1]? =some l[i]:=by rw [Nat.add_sub_cancel];exact List.getElem?_eq_getElem H1
  rw [this];rfl
section
variable {st:St} {l:List Tk} {own:Ay} {K:AD->St->Prop}
attribute [local irreducible] Go.Aw.Ai
theorem ej (hok:aC l) (hn:l.length<=100000000) (h:K (.ret (.slice 4 (Bb (Ed l)) .any)) st):PC 39 [.slice 4 (Bb l) own] st K:=by
 refine Bp.ends (V0 Ac [] Tryz.func39 rfl IR rfl ?_)
 refine Aj Ac ?_
 repeat' ((conv=>whnf);first|exact B1|(refine Bc ?_;intros)|(refine B2 ?_ ?_ ?_;rotate_left)|fail)
 refine Aj Ac ?_
 repeat' ((conv=>whnf);first|exact B1|(refine Bc ?_;intros)|(refine B2 ?_ ?_ ?_;rotate_left)|refine ⟨⟨H1,H1,H1,(by unfold Fk<;>omega)⟩,.inl ⟨rfl,λb0 f0=>?_⟩⟩|fail)
 refine Aj Ac ?_
 repeat' ((conv=>whnf);first|exact B1|(refine Bc ?_;intros)|(refine B2 ?_ ?_ ?_;rotate_left)|refine sQ (λc fc=>?_)|fail)
 conv=>whnf
 refine pX.zn 1 0 rfl rfl rfl (λb1 f1=>?_)
 refine pX.zn 3 1 rfl rfl rfl (λb3 f3=>?_)
 refine pX.here ?_
 obtain ⟨S,hS⟩:∃S,S=(st.Ab c [.slice 4 (Bb l) own]).Ab b1 [.slice 4 (Bb l) own]:=⟨_,rfl⟩
 have n0c:c≠b0:=by
  rintro rfl
  have:=fc.2
  simp [St.Cw] at this
 have n01:b1≠b0:=by
  rintro rfl
  have:=f1.2
  simp [St.Cw,St.Ab] at this
 have n03:b3≠b0:=by
  rintro rfl
  have:=f3.2
  simp [St.Cw,St.Ab] at this
 have nc1:b1≠c:=by
  rintro rfl
  have:=f1.1
  rw [St.As] at this;cases this
 have n31:b3≠b1:=by
  rintro rfl
  have:=f3.1
  rw [St.As] at this;cases this
 have n3c:b3≠c:=by
  rintro rfl
  have:=f3.1
  rw [JA (Ne.symm n31),St.As] at this;cases this
 have fc0:st.box c=none:=fc.1
 have f10:st.box b1=none:=by have:=f1.1;rw [JA (Ne.symm nc1)] at this;exact this
 have f30:st.box b3=none:=by have:=f3.1;rw [JA (Ne.symm n31),JA (Ne.symm n3c)] at this;exact this
 have hSc:S.box c=some [.slice 4 (Bb l) own]:=by rw [hS,JA nc1,St.As]
 have hS1:S.box b1=some [.slice 4 (Bb l) own]:=by rw [hS,St.As]
 have hle:∀X,st.le (S.Ab b3 X):=λX=>by
  rw [hS];exact St.Av (St.Av (St.Av (St.le_refl _) fc0 _) f10 _) f30 _
 have hgo:Ay.B5 (S.Ab b3 [.slice 4 [] (.tok b0)]) (.tok b0):=by
  refine (show (S.Ab b3 _).fresh b0 from ⟨?_,by rw [hS];exact f0.2⟩)
  rw [JA n03,hS,JA n01,JA n0c];exact f0.1
 obtain ⟨J,hJ⟩:∃J:Nat->St->Prop,J=λi st'=>∃o:Ay,o.B5 (S.Ab b3 [.slice 4 (Bb (EL none (l.take i))) o])/\st'=o.st (S.Ab b3 [.slice 4 (Bb (EL none (l.take i))) o]) ((EL none (l.take i)).length*4):=⟨_,rfl⟩
 refine ⟨⟨rfl,rfl⟩,150,[.ptr c 0],J l.length,⟨rfl,⟨_,Tryz.func150,IR,IR⟩⟩,?_,?_⟩
 .intro D B Im β a wm L df fi hF I w cargs hm hs hargs hl hi
  refine vG (own:=own) hok hn (J:=J) (λi st1 hj=>?_) (λi st1 hlt hj=>?_) ?_ hm hs hargs hl hi
  .rw [hJ] at hj
   obtain ⟨o,_,rfl⟩:=hj
   rw [Ay.Pu,JA n3c,hSc]
  .refine pP Ac hF rfl rfl rfl IR rfl rfl ?_
   rw [hJ] at hj
   obtain ⟨o,hgo,rfl⟩:=hj
   obtain ⟨t,ht⟩:∃t,l[(i:Int).toNat]? =some t:=⟨_,List.getElem?_eq_getElem H1⟩
   have htk:=bN (l:=l) (i:=i) (t:=t) ht
   have hlen2:=Ma (l.take i) none
   have hti:(l.take i).length<=l.length:=WF
   generalize hout:EL none (l.take i)=out at *
   have hb3:(o.st (S.Ab b3 [.slice 4 (Bb out) o]) (out.length*4)).box b3=some [.slice 4 (Bb out) o]:=by rw [Ay.Pu,St.As]
   have hb1:(o.st (S.Ab b3 [.slice 4 (Bb out) o]) (out.length*4)).box b1=some [.slice 4 (Bb l) own]:=by rw [Ay.Pu,JA n31,hS1]
   have hlo:out.length+1<=1000000000:=H1
   unfold eZ
   by_cases hz:Gt l i=0
   .have hfin:∀o2:Ay,o2.B5 (S.Ab b3 [.slice 4 (Bb out) o])->J (i+1) ((o2.st (S.Ab b3 [.slice 4 (Bb out) o]) ((out++[t]).length*4)).Ab b3 [.slice 4 (Bb (out++[t])) o2]):=λo2 h2=>by
     rw [hJ]
     refine ⟨o2,?_,?_⟩
     .rw [htk];unfold markT;rw [if_pos hz];exact Ay.Si h2
     .rw [htk];unfold markT;rw [if_pos hz,Ay.WX,St.set_set]
    repeat' ((conv=>whnf);first|exact B1|(refine Bc ?_;intros)|(refine B2 ?_ ?_ ?_;rotate_left)|refine ⟨⟨rfl,rfl⟩,?_⟩|refine AK hb3 ?_|refine AK hb1 ?_|refine NG (x:=t) hgo hlo (λo2 h2=>?_)|refine AK ZE ?_|exact hfin o2 h2|refine Ad 16 [14,15] [1] ?_|refine Ad 8 [6,7] [1] ?_|fail)
   .have hlo2:(out++[xf (Gt l i) t]).length+1<=1000000000:=bl
    have hfin:∀o2 o3:Ay,o2.B5 (S.Ab b3 [.slice 4 (Bb out) o])->o3.B5 ((S.Ab b3 [.slice 4 (Bb out) o]).Ab b3 [.slice 4 (Bb (out++[xf (Gt l i) t])) o2])->
     J (i+1) ((o3.st ((S.Ab b3 [.slice 4 (Bb out) o]).Ab b3 [.slice 4 (Bb (out++[xf (Gt l i) t])) o2]) ((out++[xf (Gt l i) t]++[t]).length*4)).Ab b3 [.slice 4 (Bb (out++[xf (Gt l i) t]++[t])) o3]):=λo2 o3 h2 h3=>by
     rw [hJ]
     refine ⟨o3,?_,?_⟩
     .rw [htk];unfold markT;rw [if_neg hz,St.set_set] at *;exact Ay.Si h3
     .rw [htk];unfold markT;rw [if_neg hz,Ay.WX,St.set_set,St.set_set,List.append_assoc];rfl
    have hb1':∀(o2:Ay) n C,((o2.st (S.Ab b3 [.slice 4 (Bb out) o]) n).Ab b3 C).box b1=some [.slice 4 (Bb l) own]:=λo2 n C=>by rw [JA n31,Ay.Pu,JA n31,hS1]
    repeat' ((conv=>whnf);first|exact B1|(refine Bc ?_;intros)|(refine B2 ?_ ?_ ?_;rotate_left)|refine ⟨⟨rfl,rfl⟩,?_⟩|refine AK hb3 ?_|refine AK hb1 ?_|refine AK (hb1' _ _ _) ?_|refine AK (St.As ..) ?_|refine NG (x:=xf (Gt l i) t) hgo hlo (λo2 h2=>?_)|refine p7 (x:=t) (Ay.JM h2 (by rw [St.As]<;>simp)) hlo2 (λo3 h3=>?_)|refine AK ZE ?_|exact hfin o2 o3 h2 h3|refine Ad 16 [14,15] [1] ?_|refine Ad 8 [6,7] [1] ?_|fail)
  .rw [hJ]
   exact ⟨.tok b0,hgo,by rw [hS];rfl⟩
 .intro st' hk
  rw [hJ,List.take_length] at hk
  obtain ⟨o,hgo,rfl⟩:=hk
  have hb3:(o.st (S.Ab b3 [.slice 4 (Bb (EL none l)) o]) ((EL none l).length*4)).box b3=some [.slice 4 (Bb (EL none l)) o]:=ZE
  have hb1:(o.st (S.Ab b3 [.slice 4 (Bb (EL none l)) o]) ((EL none l).length*4)).box b1=some [.slice 4 (Bb l) own]:=by rw [Ay.Pu,JA n31,hS1]
  have hlen2:=Ma l none
  have hlo:(EL none l).length+1<=1000000000:=H1
  refine Aj Ac ?_
  have hle1:st.le (o.st (S.Ab b3 [.slice 4 (Bb (EL none l)) o]) ((EL none l).length*4)):=St.le_trans (hle _) (Ay.Bj hgo)
  have hle2:∀(o2:Ay) (n:Nat) (C D:List V),o2.B5 (S.Ab b3 C)->st.le ((o2.st (S.Ab b3 C) n).Ab b3 D):=λo2 n C D h2=>by
   rw [Ay.WX,St.set_set];exact St.le_trans (hle _) (Ay.Bj (Ay.Si h2))
  have U:∀x:List Tk,T7 l=x->K (.ret (.slice 4 (Bb (EL none l++x)) .any)) st:=λx e=>by
   have:=h;unfold Ed at this;rw [e] at this;exact this
  cases hlast:l.getLast? with
  |none=>
   obtain rfl:l=[]:=List.getLast?_eq_none_iff.1 hlast
   have U:=U [⟨16,[],0,0⟩] rfl
   have hz0:(([]:List Tk).length:Int)=0:=rfl
   repeat' ((conv=>whnf);first|exact B1|(refine Bc ?_;intros)|(refine B2 ?_ ?_ ?_;rotate_left)|refine AK hb1 ?_|refine AK hb3 ?_|refine NG (x:=⟨16,[],0,0⟩) hgo hlo (λo2 h2=>?_)|refine AK ZE ?_|refine AK (St.As ..) ?_|fail)
   all_goals conv=>whnf
   all_goals refine ⟨.inr rfl,?_⟩
   all_goals conv=>whnf
   all_goals exact ⟨_,_,.inr rfl,hle2 o2 _ _ _ h2,U⟩
  |some t=>
   have hpos:0<l.length:=List.length_pos_iff.2 (λe=>by rw [e] at hlast;cases hlast)
   have ht:l[((l.length:Nat) - 1:Int).toNat]? =some t:=by
    rw [List.getLast?_eq_getElem?] at hlast
    rw [<-hlast];congr 1;omega
   have hne:¬(l.length:Int)=0:=H1
   cases ho:Ss t with
   |true=>
    have U:=U [⟨16,[],0,0⟩] (by unfold T7;rw [hlast];simp [ho])
    repeat' ((conv=>whnf);first|exact B1|(refine Bc ?_;intros)|(refine B2 ?_ ?_ ?_;rotate_left)|refine AK hb1 ?_|refine AK hb3 ?_|refine gh (λst K h=>Su h) ho ?_|refine NG (x:=⟨16,[],0,0⟩) hgo hlo (λo2 h2=>?_)|refine AK ZE ?_|refine AK (St.As ..) ?_|fail)
    all_goals conv=>whnf
    all_goals refine ⟨.inr rfl,?_⟩
    all_goals conv=>whnf
    all_goals exact ⟨_,_,.inr rfl,hle2 o2 _ _ _ h2,U⟩
   |false=>
    have U:=U [] (by unfold T7;rw [hlast];simp [ho])
    rw [List.append_nil] at U
    repeat' ((conv=>whnf);first|exact B1|(refine Bc ?_;intros)|(refine B2 ?_ ?_ ?_;rotate_left)|refine AK hb1 ?_|refine AK hb3 ?_|refine kK (λst K h=>Su h) ho ?_|fail)
    all_goals conv=>whnf
    all_goals refine ⟨.inr rfl,?_⟩
    all_goals conv=>whnf
    all_goals exact ⟨_,_,.inr rfl,hle1,U⟩
end
theorem fA {l:List Tk} (h:oX l=true):aC l:=λt U=>by
 have:=List.all_eq_true.1 h t U
 simp only [Bool.and_eq_true,decide_eq_true_eq] at this
 exact ⟨this.1,this.2.1,this.2.2⟩
theorem kS {s s':Af} {A:Nat->Rd Nd} (U:¬deep<1) (e:(A (B0 deep)).run s=.inr (n,s')):C5 s deep (DC (A (B0 deep)) s)=(n,s',0):=by
 unfold C5 DC
 rw [if_neg U,e]
section
variable {st:St} {K:AD->St->Prop}
theorem vK {x:Lx} (hs:Gq s=.inr x) (h:∀w1 w2 st',st.le st'->K (.ret (.Bl [.slice 4 (Bb x.AR) w1,.slice 5 (MD x.notes) w2,.int .i64 0,.int .i64 0])) st'):PC 22 [.str s] st K:=by
 refine ue (λi' e' U=>?_) (λi' e' st' hle U=>?_) (λx w1 w2 st' U hle=>?_)
 .rw [hs] at U;cases U
 .rw [hs] at U;cases U
 .rw [hs] at U;injection U with U;subst U;exact h w1 w2 st' hle
end
theorem yJ {s:Af} (h:s.AR.length<=1000/\s.Cf.length<=1000):mu s<=100000000:=by unfold mu;omega
theorem oQ (h:(match Gq s with| .inr _=>true| .inl _=>false)=true):∃x,Gq s=.inr x/\x.AR=N4 s:=by
 unfold N4
 cases e:Gq s with
 |inl p=>rw [e] at h;cases h
 |inr x=>exact ⟨x,rfl,rfl⟩
theorem zE:∃n s',(DT 4).run ⟨Ed (N4 cU),0,[],0⟩=.inr (n,s')/\n.kind=2/\s'.pos=(s'.AR.length:Nat)/\∃k1 k2 k3,n.kids=[k1,k2,k3]/\k1.kids.length=7/\k2.kind=42/\k3.kind=36:=by
 have h:=yf
 cases e:(DT 4).run ⟨Ed (N4 cU),0,[],0⟩ with
 |inl p=>rw [show (FR (Tg (G5 4) (Kd 4) (GG 4) (CH 4) (F2 (CH 4) (Jq 3)) (Dp FT (F2 (CH 3) (Jq 2))))).run _=_ from e] at h;cases h
 |inr p=>
  obtain ⟨n,s'⟩:=p
  rw [show (FR (Tg (G5 4) (Kd 4) (GG 4) (CH 4) (F2 (CH 4) (Jq 3)) (Dp FT (F2 (CH 3) (Jq 2))))).run _=_ from e] at h
  simp only [Bool.and_eq_true,beq_iff_eq] at h
  obtain ⟨⟨h1,h2⟩,U⟩:=h
  refine ⟨n,s',rfl,h1,h2,?_⟩
  match hk:n.kids,U with
  |[k1,k2,k3],U=>
   simp only [List.map_cons,List.map_nil,List.cons.injEq,and_true,Prod.mk.injEq] at U
   obtain ⟨⟨a,b⟩,⟨c,_⟩,d,_⟩:=U
   rw [if_pos a] at b
   exact ⟨k1,k2,k3,rfl,b,c,d⟩
  |[],U=>simp at U
  |[_],U=>simp at U
  |[_,_],U=>simp at U
  |_::_::_::_::_,U=>simp at U
theorem zF:∃e s',(DT 4).run ⟨Ed (N4 cV),0,[],0⟩=.inl (e,s')/\e.1=120:=by
 have h:=yg
 cases e:(DT 4).run ⟨Ed (N4 cV),0,[],0⟩ with
 |inr p=>rw [show (FR (Tg (G5 4) (Kd 4) (GG 4) (CH 4) (F2 (CH 4) (Jq 3)) (Dp FT (F2 (CH 3) (Jq 2))))).run _=_ from e] at h;cases h
 |inl p=>
  obtain ⟨e',s'⟩:=p
  rw [show (FR (Tg (G5 4) (Kd 4) (GG 4) (CH 4) (F2 (CH 4) (Jq 3)) (Dp FT (F2 (CH 3) (Jq 2))))).run _=_ from e] at h
  exact ⟨e',s',rfl,beq_iff_eq.1 h⟩
section
variable {st:St} {K:AD->St->Prop}
theorem Xc {x:Lx} (hs:Gq s=.inr x) (hok:aC x.AR) (hn:x.AR.length<=100000000) (h:∀st',st.le st'->K (.ret (Am ⟨Ed x.AR,0,[],0⟩)) st'):PC 15 [.str s] st K:=by
 refine pB Tryz.func15 ?_
 repeat' ((conv=>whnf);first|  refine vK hs (λw1 w2 st1 U=>?_)|refine ej hok hn ?_)
 all_goals exact ⟨_,_,.inr rfl,St.le_refl _,h st1 U⟩
theorem UT {s s':Af} {e:Int} (U:mu s<=100000000) (hq:C5 s deep (DC (DT (B0 deep)) s)=(n,s',e)) (h:K (.ret (XR n s' e)) st):PC 12 [Am s,.int .i64 deep] st K:=UR U (by rw [hq];exact h)
theorem OD {s:Af} {v:Bool} (U:v=(decide (s.AR.length<=1000)&&decide (s.Cf.length<=1000))) (h:K (.ret (.bool v)) st):PC 10 [Am s] st K:=by
 refine pB Tryz.func10 ?_
 repeat' ((conv=>whnf);first|(refine Bc ?_;intros)|(refine CD ?_ ?_<;>intro _)|fail)
 all_goals conv=>whnf
 all_goals (refine An h ?_;clear h;rw [U])
 all_goals simp only [Bool.and_eq_true,decide_eq_true_eq,Bool.and_eq_false_iff,decide_eq_false_iff_not]
 all_goals omega
theorem J9 (h:∀st',st.le st'->K (.ret (.bool true)) st'):PC 11 [] st K:=by
 refine pB Tryz.func11 ?_
 obtain ⟨x,hx,U⟩:=oQ tg
 obtain ⟨y,hy,hyt⟩:=oQ th
 have hok:=td
 simp only [Bool.and_eq_true,decide_eq_true_eq] at hok
 obtain ⟨⟨⟨⟨⟨o1,o2⟩,o3⟩,o4⟩,o5⟩,o6⟩:=hok
 obtain ⟨n,s1,r1,a1,a3,k1,k2,k3,a4,a5,a6,a7⟩:=zE
 obtain ⟨e,s2,r2,b1⟩:=zF
 have hk0:n.kids[(0:Int).toNat]? =some k1:=by rw [a4];rfl
 have hk1:n.kids[(1:Int).toNat]? =some k2:=by rw [a4];rfl
 have hk2:n.kids[(2:Int).toNat]? =some k3:=by rw [a4];rfl
 have hkl:(n.kids.length:Int)=3:=by rw [a4];rfl
 have hk7:(k1.kids.length:Int)=7:=by rw [a5];rfl
 have hm1:mu ⟨Ed x.AR,0,[],0⟩<=100000000:=by rw [U];unfold mu;simp only [List.length_nil];omega
 have hm2:mu ⟨Ed y.AR,0,[],0⟩<=100000000:=by rw [hyt];unfold mu;simp only [List.length_nil];omega
 have c1:C5 ⟨Ed x.AR,0,[],0⟩ 4 (DC (DT (B0 4)) ⟨Ed x.AR,0,[],0⟩)=(n,s1,0):=by rw [U];exact kS (A:=DT) IR r1
 have c2:C5 ⟨Ed y.AR,0,[],0⟩ 4 (DC (DT (B0 4)) ⟨Ed y.AR,0,[],0⟩)=(BC,s2,120):=by
  rw [hyt]
  unfold C5 DC
  rw [if_neg IR,show (DT (B0 4)).run _=_ from r2,<-b1]
 repeat' ((conv=>whnf);first|(refine Bc ?_;intros)|refine Xc hx (by rw [U]<;>exact fA o1) (by rw [U]<;>omega) (λst1 hle1=>?_)|refine Xc hy (by rw [hyt]<;>exact fA o2) (by rw [hyt]<;>omega) (λst2 hle2=>?_)|refine UT hm1 c1 ?_|refine UT hm2 c2 ?_)
 all_goals conv=>whnf
 all_goals exact fin (h _ (St.le_trans hle1 hle2)) rfl
end
theorem T6 {σ':Type} {body:σ->Rd (Sum σ β)} {U:σ'->Rd (Sum σ' β)} (f:σ'->σ) (h1:∀x s e s',(U x).run s=.inl (e,s')->(body (f x)).run s=.inl (e,s')) (h2:∀x s y s',(U x).run s=.inr (.inl y,s')->(body (f x)).run s=.inr (.inl (f y),s'))
 (h3:∀x s b s',(U x).run s=.inr (.inr b,s')->(body (f x)).run s=.inr (.inr b,s')) (x:σ') (s:Af):Rd.iter U x s=Rd.iter body (f x) s:=by
 fun_induction Rd.iter U x s with
 |case1 x s p h=>rw [show Rd.iter body (f x) s=.inl p by rw [Rd.iter,h1 _ _ p.1 p.2 h]]
 |case2 x s y s1 h=>rw [show Rd.iter body (f x) s=.inr (y,s1) by rw [Rd.iter,h3 _ _ _ _ h]]
 |case3 x s x' s1 h hlt ih=>
  rw [show Rd.iter body (f x) s=Rd.iter body (f x') s1 by rw [Rd.iter,h2 _ _ _ _ h];simp only [hlt,if_true]]
  exact ih
 |case4 x s x' s1 h hlt=>rw [show Rd.iter body (f x) s=.inl (⟨2,IR⟩,s) by rw [Rd.iter,h2 _ _ _ _ h];simp only [hlt,if_false]]
abbrev SI (n:Nd) (s:Af):List V:=(match Ax n s 0 with| .agg cs=>cs|_=>[])
def Pc (o:Bool) (p:List Nd×(Nd×Af)):Rd (Sum (List Nd×(Nd×Af)) (List Nd)):=.look λs=>if AP s 15 [41]=true then .ret (.inr p.1) else .seq (PX o) λn=>.look λs=>if AP s 15 [44]=true then .seq AB λc=>.ret (.inl (p.1++[n]++[c],(n,s))) else .ret (.inr (p.1++[n]))
theorem rR {o:Bool} (x:List Nd×(Nd×Af)) (s:Af):Rd.iter (Pc o) x s=Rd.iter (Nh o) x.1 s:=by
 have key:∀(x:List Nd×(Nd×Af)) s,(Nh o x.1).run s=(match (Pc o x).run s with| .inl p=>.inl p| .inr (.inl y,s')=>.inr (.inl y.1,s')| .inr (.inr b,s')=>.inr (.inr b,s')):=λx s=>by
  unfold Nh Pc aP Rd.look
  dsimp only
  split
  .rfl
  .unfold Rd.seq
   dsimp only
   cases (PX o).run s with
   |inl p=>rfl
   |inr p=>
    dsimp only
    split
    .dsimp only
     cases AB.run p.2 with
     |inl q=>rfl
     |inr q=>rfl
    .rfl
 exact T6 (λp:List Nd×(Nd×Af)=>p.1) (λx s e s' h=>by rw [key,h]) (λx s y s' h=>by rw [key,h]) (λx s b s' h=>by rw [key,h]) x s
theorem jG {o:Bool} {q:Nd×Af} {s:Af} {Q:List Nd->Af->Prop} {E:Er->Af->Prop} (h:Rd.wp (Rd.loop (Nh o) l) s Q E):Rd.wp (Rd.loop (Pc o) (l,q)) s Q E:=by
 unfold Rd.wp at h |-
 rw [show (Rd.loop (Pc o) (l,q)).run s=(Rd.loop (Nh o) l).run s from rR _ _]
 exact h
section
variable {st0 st:St} {s:Af} {rows:List (Ay×List Nd)} {K R:AD->St->Prop} {Q:Nd->Af->Prop} {E:Er->Af->Prop}
attribute [local irreducible] Go.Aw.Ai
theorem pO {o:Bool} (hm:mu s<=100000000) (hc:Rx st0 st rows) (h:Rd.wp (Pf o) s (λv s'=>∀st',Rx st0 st' rows->K (.ret (Ax v s' 0)) st') (λe s'=>∀st',Rx st0 st' rows->K (.ret (Ax BC s' e.1)) st')):PC 21 [Am s,.bool o] st K:=by
 simp only [Pf,Rd.wp_seq,Rd.wp_ret] at h
 refine pB Tryz.func21 ?_
 repeat' ((conv=>whnf);first|(refine Bc ?_;intros)|refine F9 (l:=[]) IR (Nat.zero_le _) hm (hc.push []) h (λn s1 own1 U hr hmm hm1 hc h=>?_) (λe n s1 own1 U he hc h=>?_)|refine KP ‹_› ?_|exact Ae hc.drop h rfl|fail)
 have h:=jG (q:=(n,s1)) h
 refine KB (x0:=([n],(n,s1))) (λ(p:List Nd×(Nd×Af)) s own=>[(5,.slice 6 (p.1.map Ap) own)]) (λp s own=>[(0,s.cells),(2,SI p.2.1 p.2.2)]) [1,2,4,6] [1] (λp own=>(own,p.1)::rows) (λp=>p.1.length) own1 hm1 hc h (by show 1+_<=_;omega) Yl ?_
 intro p s3 st3 own3 hm3 hm4 hc h hl
 obtain ⟨l,q⟩:=p
 dsimp only at hc hl
 simp only [Pc,Rd.Ag,Rd.Ao,Rd.wp_seq,Rd.wp_ret,Rd.AO] at h
 repeat' ((conv=>whnf);first|(refine Bc ?_;intros)|exact ⟨⟨_,_,_,_⟩,⟨‹_›,Do,hc,Rd.Bh h Do,Do⟩,Do,Yl,St.le_refl _⟩|refine Gd ‹_› h (λe h=>?_) (λe h=>?_)|refine Ba.go (pN (o:=o)) ‹_› hc h (λn s1 U hr hmm hm1 hc h=>?_) (λe n s1 U he hc h=>?_)|refine Rx.BE (l:=l) hc H1 (λown1 U hc=>?_)|refine BK (l:=l++[_]) (by rw [List.length_append]<;>show l.length+1<=_<;>omega) ‹_› hc h (A9 ‹_› IR) (λs2 own2 st2 hlt hm2 hc h=>?_)|refine Fg (l:=l) H1 ‹_› hc h (λc s1 U hmm hm1 hc h=>?_) (λe n s1 U he hc h=>?_)|refine Fg (l:=l++[_]) (by rw [List.length_append]<;>show l.length+1<=_<;>omega) ‹_› hc h (λc s1 U hmm hm1 hc h=>?_) (λe n s1 U he hc h=>?_)|refine OH ?_|refine KP ‹_› ?_|exact Ae hc h rfl|exact Ae hc.drop h rfl|fail)
end
section
variable {st:St} {K R:AD->St->Prop}
theorem Xl {s:Af} {e:Int} (h:R (.ret (.bool true)) st):PC 13 [enc n,Am s,.int .i64 e,Ax n s e] st R:=by
 refine pB Tryz.func13 ?_
 repeat' ((conv=>whnf);first|(refine Bc ?_;intros)|refine iR _ (Nat.le_refl _) ?_|refine Zn ?_)
 all_goals exact fin h rfl
end
def L8 (L:DL) (atom:Rd Nd) (l:List Nd):Rd Nd:=.seq (.loop (L7 atom) l) λl=>.seq (Gu L.exp 10 [45,62] l) λl=>.ret (Al 23 l)
def QA (L:DL) (l:List Nd):Rd Nd:=.seq L.exp λc=>.seq (P8 pt) λ_=>.seq (Gu L.exp 9 pt (l++[c])) λl=>.seq (P8 pq) λ_=>.seq (Gu L.exp 9 pq l) λl=>.ret (Al 25 l)
def VF (L:DL) (l:List Nd):Rd Nd:=.seq L.decls λb=>.seq (Gu L.exp 9 yl (l++[b])) λl=>.ret (Al 24 l)
def du (L:DL) (l:List Nd):Rd Nd:=.seq L.exp λe=>.seq (Bo 9 zt) λo=>.seq L.alts λa=>.ret (Al 26 (l++[e]++[o]++[a]))
def W4 (L:DL) (l:List Nd):Rd Nd:=.seq L.stmts λb=>if IX b=true then .fail Fj else .ret (Al 27 (l++[b]))
theorem mg {atom:Rd Nd}:Kz L atom=.seq AB λb=>L8 L atom [b]:=by simp only [Kz,L8,Gu,Rd.seq_assoc,Rd.On]
theorem kM:Km L=.seq AB λb=>QA L [b]:=by simp only [Km,QA,Od,Gu,Rd.seq_assoc,Rd.On,List.cons_append,List.nil_append]
theorem xL:gW L=.seq AB λb=>VF L [b]:=by simp only [gW,Ii,VF,Gu,Rd.seq_assoc,Rd.On,List.cons_append,List.nil_append]
theorem u7:TS L=.seq AB λb=>du L [b]:=by simp only [TS,du,List.cons_append,List.nil_append]
theorem sR:Nr L=.seq AB λb=>W4 L [b]:=by simp only [Nr,W4,List.cons_append,List.nil_append]
structure Kg (d:Nat) (L:DL) (stm opd full:Rd Nd):Prop where
 exp:Ba 258 (λs=>[Am s,.int .i64 (d:Int)]) L.exp
 yR:Ba 259 (λs=>[Am s,.int .i64 (d:Int)]) stm
 decls:Ba 183 (λs=>[Am s,.int .i64 (d:Int),.int .i64 0]) L.decls
 stmts:Ba 183 (λs=>[Am s,.int .i64 (d:Int),.int .i64 1]) L.stmts
 alts:Ba 183 (λs=>[Am s,.int .i64 (d:Int),.int .i64 2]) L.alts
 zero:d=0->L=bL
 atom:d≠0->Ba 188 (λs=>[Am s,.int .i64 (d:Int)]) L.atom
 ops:d≠0->Ba 110 (λs=>[Am s,.int .i64 (d:Int)]) L.ops
 row:d≠0->tK 186 (λs=>[Am s,.int .i64 (d:Int),.bool true]) (H8 opd true)
 xB:d≠0->Ba 108 (λs=>[Am s,.int .i64 (d:Int)]) full
 F1:d≠0->∀o,L.F1 o=ER opd full L.exp o
 list:d≠0->∀o,L.list o=PW L.exp stm o
def xo (atom:Rd Nd):Prop:=∀s,DI (Aa s).1=false->atom.run s=MX.run s
section
variable {st0 st:St} {s:Af} {rows:List (Ay×List Nd)} {K:AD->St->Prop} {E:Er->Af->Prop} {d:Nat} {L:DL} {atom stm opd full:Rd Nd} {o:Nd}
theorem rv {Q:Sum (List Nd) (List Nd)->Af->Prop} (ha:xo atom) (h:Rd.wp (L7 atom l) s Q E):
 if DI (Aa s).1=true then Rd.wp (KA atom l) s Q E else if ((l.length:Int)==1)=true then Rd.wp (MX:Rd Unit) s (λ_ _=>True) E else Q (.inr l) s:=by
 unfold L7 at h
 rw [Rd.Ao] at h
 split
 .split at h
  .exact h
  .rename_i e _;rw [Rd.Ag,if_pos e] at h;exact h
 .rename_i e
  split
  .rename_i U
   rw [if_pos U] at h
   have:=ha s (by simpa using e)
   unfold KA CY Rd.wp Rd.seq Rd.look at h
   dsimp only at h
   rw [this] at h
   exact h
  .rename_i U
   rw [if_neg U,Rd.Ag,if_neg e] at h;exact h
attribute [local irreducible] Go.Aw.Ai
theorem cw (hd:d<=1000000) (hL:Kg d L stm opd full) (ha:Ba 188 (λs=>[Am s,.int .i64 ((d+1:Nat):Int)]) atom) (hF:Rd.AZ atom) (hD:Dv atom) (hA:xo atom):
 Ba 311 (λs=>[.slice 6 [Ap o] .full,Am s,.int .i64 ((d+1:Nat):Int)]) (L8 L atom [o]):=by
 refine ⟨λ{st0 s st rows K} hm hc h=>?_⟩
 refine pB Tryz.func311 ?_
 repeat' ((conv=>whnf);(first|refine AV ?_|refine Ej ?_ ?_|fail)<;>intros)
 refine Hg (λl=>L8 L atom l) (λl s own=>[(0,.slice 6 (l.map Ap) own)]) (λl s own=>[(0,s.cells)]) [2,4,6] [1] (λl own=>(own,l)::rows) (λl=>l.length) .full hm (hc.push [o]) h (by show 1+_<=_;omega) Yl ?_
 intro l s1 U own1 hm1 hm2 hc h hl
 unfold L8 at h
 rw [Rd.wp_seq,Rd.wp_loop] at h
 replace h:=rv hA h
 simp only [KA,CY,Rd.Ag,Rd.Ao,Rd.wp_seq,Rd.wp_ret,Rd.Df,Rd.AO] at h
 repeat' ((conv=>whnf);first|refine BI hd ?_|(refine AV ?_;intros)|(refine Ej ?_ ?_<;>intro e h)|refine Ba.Tr ha hF ‹_› hc h (λn s1 U hr hl hm hc h=>?_) (λe n s1 U he hc h=>?_)|refine OG (Dv.yL hD hr ‹_›) h (λe h=>?_) (λe h=>?_)|refine aw.go (FF IR hL.exp) H1 ‹_› hc h (λl' n own' s1 U hr hl hm hc h=>?_) (λe l' n own' s1 U he hc h=>?_)|exact ⟨⟨_,s1,_,_⟩,⟨‹_›,GE,hc,(by simp only [L8,Rd.wp_seq,Rd.wp_ret]<;>exact Rd.Bh h H1),f8⟩,GE,Yl,St.le_refl _⟩|refine CJ ?_|(refine Rh ?_;intro e he h)|(refine El ?_;intro own1 U hc)|refine BH (λ_=>?_)|exact CV|fail)
theorem cp (hd:d<=1000000) (U:Kg d L stm opd full):Ba 313 (λs=>[.slice 6 [Ap o] .full,Am s,.int .i64 ((d+1:Nat):Int)]) (QA L [o]):=by
 refine ⟨λ{st0 s st rows K} hm hc h=>?_⟩
 simp only [QA,Rd.wp_seq,Rd.wp_ret] at h
 refine pB Tryz.func313 ?_
 repeat' ((conv=>whnf);(first|refine BI hd ?_|refine AV ?_|refine Rx.BE (l:=[_]) (Rx.push ‹_› [_]) (Nat.le_of_ble_eq_true rfl) ?_|refine LP.go (by first|  exact (U.exp).a) ?_ ?_|refine yA ‹_› ‹_› ?_|refine aw.go (FF IR U.exp) (by first|omega|(simp only [List.length_append,List.length_cons,List.length_nil]<;>omega)|(rw [Yy ‹_›]<;>exact Nat.le_of_ble_eq_true rfl)) ‹_› ‹_› ‹_› ?_ ?_|refine CJ ?_|exact CV|fail)<;>intros)
theorem iH (hd:d<=1000000) (U:Kg d L stm opd full):Ba 312 (λs=>[.slice 6 [Ap o] .full,Am s,.int .i64 ((d+1:Nat):Int)]) (VF L [o]):=by
 refine ⟨λ{st0 s st rows K} hm hc h=>?_⟩
 simp only [VF,Rd.wp_seq,Rd.wp_ret] at h
 refine pB Tryz.func312 ?_
 repeat' ((conv=>whnf);(first|refine BI hd ?_|refine AV ?_|refine Rx.BE (l:=[_]) (Rx.push ‹_› [_]) (Nat.le_of_ble_eq_true rfl) ?_|refine LP.go (by first|  exact (U.decls).a) ?_ ?_|refine aw.go (FF IR U.exp) (by first|omega|(simp only [List.length_append,List.length_cons,List.length_nil]<;>omega)|(rw [Yy ‹_›]<;>exact Nat.le_of_ble_eq_true rfl)) ‹_› ‹_› ‹_› ?_ ?_|refine CJ ?_|exact CV|fail)<;>intros)
theorem iz (hd:d<=1000000) (U:Kg d L stm opd full):Ba 314 (λs=>[.slice 6 [Ap o] .full,Am s,.int .i64 ((d+1:Nat):Int)]) (du L [o]):=by
 refine ⟨λ{st0 s st rows K} hm hc h=>?_⟩
 simp only [du,Rd.wp_seq,Rd.wp_ret] at h
 refine pB Tryz.func314 ?_
 repeat' ((conv=>whnf);(first|refine BI hd ?_|refine AV ?_|refine Rx.BE (l:=[_]) (Rx.push ‹_› [_]) (Nat.le_of_ble_eq_true rfl) ?_|refine LP.go (by first|  exact (U.exp).a|exact (U.alts).a) ?_ ?_|refine jS ?_ ?_|refine CJ ?_|refine El ?_|exact CV|fail)<;>intros)
theorem iQ (hd:d<=1000000) (hL:Kg d L stm opd full):Ba 315 (λs=>[.slice 6 [Ap o] .full,Am s,.int .i64 ((d+1:Nat):Int)]) (W4 L [o]):=by
 refine ⟨λ{st0 s st rows K} hm hc h=>?_⟩
 simp only [W4,Rd.wp_seq,Rd.wp_ret,Rd.Ao,Rd.BD] at h
 refine AQ Ac [] Tryz.func315 rfl IR rfl ?_
 refine Ah (Aj Ac ?_)
 repeat' ((conv=>whnf);(first|refine AV ?_|fail)<;>intros)
 refine Ah (Aj Ac ?_)
 repeat' ((conv=>whnf);first|refine BI hd ?_|(refine AV ?_;intros)|refine Ba.go hL.stmts ‹_› hc h (λn s1 st1 hr hl hm hc h=>?_) (λe n s1 st1 he hc h=>?_))
 .refine Aj Ac ?_
  by_cases hz:n.kids.length=0
  .rw [if_pos (ua hz)] at h
   repeat' ((conv=>whnf);(first|refine AV ?_|refine CJ ?_|exact CV|fail)<;>intros)
  .obtain ⟨x,hx⟩:∃x,n.kids[((n.kids.length:Nat) - 1:Int).toNat]? =some x:=⟨_,List.getElem?_eq_getElem H1⟩
   by_cases U:x.kind=32\/x.kind=33
   .rw [if_pos (ub hx U)] at h
    rcases U with U|U
    .skip
     repeat' ((conv=>whnf);(first|refine AV ?_|refine CJ ?_|exact CV|fail)<;>intros)
    .skip
     repeat' ((conv=>whnf);(first|refine AV ?_|refine CJ ?_|exact CV|fail)<;>intros)
   .have h2:¬x.kind=32:=λe=>U (.inl e)
    have h3:¬x.kind=33:=λe=>U (.inr e)
    rw [if_neg (uc hx h2 h3)] at h
    repeat' ((conv=>whnf);(first|refine AV ?_|refine Rx.BE (l:=[_]) (Rx.push ‹_› [_]) (Nat.le_of_ble_eq_true rfl) ?_|refine CJ ?_|exact CV|fail)<;>intros)
 .refine Aj Ac ?_
  repeat' ((conv=>whnf);(first|refine AV ?_|refine CJ ?_|exact CV|fail)<;>intros)
end
def V3 (stmt:Rd Nd) (l:List Nd) (n:Nd):Rd (List Nd):=.seq stmt λt=>.loop (LA stmt) (l++[n]++[t])
theorem se {stmt:Rd Nd}:Es stmt l=.seq (Bo 10 [124]) λb=>V3 stmt l b:=rfl
def LJ (L:DL) (o:Nd):Rd Nd:=.seq EB λp=>.seq L.ops λe=>FN 10 ([o]++[p]++[e]) [41]
theorem fG {s:Af} {k:Int} {E:Er->Af->Prop} (e:AP s k x=true) (h:Rd.wp AB s Q E):Rd.wp (Bo k x) s Q E:=by
 unfold Bo;rw [Rd.Ag,if_pos e];exact h
theorem gk {s:Af} {k:Int} {E:Er->Af->Prop} (e:AP s 15 x=true) (h:Rd.wp AB s (λc s'=>Q (Al k (l++[c])) s') E):Rd.wp (FN k l x) s Q E:=by
 unfold FN;rw [Rd.wp_seq];exact fG e h
section
variable {st0 st:St} {s:Af} {rows:List (Ay×List Nd)} {K:AD->St->Prop} {E:Er->Af->Prop} {d:Nat} {L:DL} {atom stm opd full:Rd Nd} {o:Nd}
theorem ef {Q:β->Af->Prop} (T:σ->Rd β) (P:σ->Prop) {x0:σ} (hp:P x0)
 (f:σ->Af->Ay->List (Nat×V)) (g:σ->Af->Ay->List (Nat×List V)) (keep kb:List Nat) (rw:σ->Ay->List (Ay×List Nd)) (wt:σ->Nat) (U:Ay) (hm:mu s<=100000000) (hc:Rx st0 st (rw x0 U)) (h:Rd.wp (T x0) s Q E) (hl:wt x0+4*mu s<=500000000)
 (he:(env.EG (f x0 s U) (g x0 s U) keep kb).C3 env)
 (hb:∀x s1 st1 own1,P x->mu s1<=100000000->mu s1<=mu s->Rx st0 st1 (rw x own1)->Rd.wp (T x) s1 Q E->wt x+4*mu s1<=500000000->
   ih (Bz (λenv' st'=>∃y:LS σ,(P y.x/\mu y.s<=100000000/\mu y.s<=mu s/\Rx st0 y.m (rw y.x y.o)/\Rd.wp (T y.x) y.s Q E/\wt y.x+4*mu y.s<=500000000)/\mu y.s<mu s1/\(env.EG (f y.x y.s y.o) (g y.x y.s y.o) keep kb).C3 env'/\St.le y.m st') Q0)
    (env.EG (f x s1 own1) (g x s1 own1) keep kb) st1):
 ∃(α:Type) (E:α->Env) (S:α->St) (J:α->Prop) (μ:α->Nat) (x0:α),J x0/\(E x0).C3 env/\St.le (S x0) st/\
  ∀x,J x->ih (Bz (λenv' st'=>∃y,J y/\μ y<μ x/\(E y).C3 env'/\St.le (S y) st') Q0) (E x) (S x):=
 ⟨LS σ,λy=>env.EG (f y.x y.s y.o) (g y.x y.s y.o) keep kb,λy=>y.m,
   λy=>P y.x/\mu y.s<=100000000/\mu y.s<=mu s/\Rx st0 y.m (rw y.x y.o)/\Rd.wp (T y.x) y.s Q E/\wt y.x+4*mu y.s<=500000000,λy=>mu y.s,⟨x0,s,st,U⟩,⟨hp,hm,Nat.le_refl _,hc,h,hl⟩,he,St.le_refl _,
   λy ⟨j0,j1,j2,j3,j4,j5⟩=>hb y.x y.s y.m y.o j0 j1 j2 j3 j4 j5⟩
attribute [local irreducible] Go.Aw.Ai
theorem Uv (hs:Ba 259 (λs=>[Am s,.int .i64 D]) stm):aw 90000000 192 (λs v=>[v,Am s,.str [124],.int .i64 D]) (Es stm):=by
 refine ⟨λ{st0 s st rows K own l} hl hm hc h=>?_⟩
 rw [se,Rd.wp_seq] at h
 refine pB Tryz.func192 ?_
 repeat' ((conv=>whnf);first|exact C1|(refine AV ?_;intros)|(refine C2 ?_ ?_ ?_;rotate_left)|refine Ba.go (J5 IR) ‹_› hc h (λn s1 U hr hl hm hc h=>?_) (λe n s1 U he hc h=>?_)|fail)
 .refine Hg (λp=>V3 stm p.1 p.2) (x0:=(l,n)) (λp s own=>[(0,.slice 6 (p.1.map Ap) own)]) (λp s own=>[(2,Dq p.2 s 0)]) [3,9,10] [1] (λp own=>(own,p.1)::rows) (λp=>p.1.length) own hm hc h f9 Yl ?_
  rintro ⟨l,n⟩ s1 U own1 hm1 hm2 hc h hl
  dsimp only at hc h hl
  simp only [V3,LA,Rd.Ag,Rd.Ao,Rd.wp_seq,Rd.wp_ret,Rd.wp_loop,Rd.AO] at h
  repeat' ((conv=>whnf);first|exact C1|(refine AV ?_;intros)|(refine C2 ?_ ?_ ?_;rotate_left)|refine Ba.go hs ‹_› hc h (λn s1 U hr hl hm hc h=>?_) (λe n s1 U he hc h=>?_)|exact ⟨⟨(_,_),s1,_,_⟩,⟨‹_›,GE,hc,(by simp only [V3,Rd.wp_seq]<;>exact Rd.p4 H1 h),f8⟩,GE,Yl,St.le_refl _⟩|(refine IE ?_ ?_<;>intro e h)|(refine Jx ?_;intro s1 hz hl hm h)|(refine El ?_;intro own1 U hc)|exact CV|refine Ad 4 [3] [1] ?_|refine Ad 4 [3] [1] ?_|refine Ad 4 [3] [1] ?_|fail)
 .refine Pa [(0,.slice 6 (l.map Ap) own)] [(2,Dq n s1 e.1)] [3,9,10] [1] Yl (λP=>?_)
  repeat' ((conv=>whnf);first|exact C1|(refine AV ?_;intros)|(refine C2 ?_ ?_ ?_;rotate_left)|(refine IE ?_ ?_<;>intro e h)|(refine Jx ?_;intro s1 hz hl hm h)|(refine El ?_;intro own1 U hc)|exact CV|refine Ad 4 [3] [1] ?_|refine Ad 4 [3] [1] ?_|refine Ad 4 [3] [1] ?_|fail)
theorem P2 (hd:d<=1000000) (hL:Kg d L stm opd full):Ba 371 (λs=>[.slice 6 [Ap o] .full,Am s,.int .i64 ((d+1:Nat):Int)]) (LJ L o):=by
 refine ⟨λ{st0 s st rows K} hm hc h=>?_⟩
 unfold LJ at h
 simp only [Rd.wp_seq] at h
 refine pB Tryz.func371 ?_
 by_cases hz:d=0
 .have U:((d+1:Nat):Int)<2:=H1
  have e:=hL.zero hz
  subst e
  simp only [bL,Rd.BD] at h
  repeat' ((conv=>whnf);(first|refine AV ?_|refine LP.go (by first|  exact Gx.a) ?_ ?_|refine CJ ?_|refine El ?_|exact CV|fail)<;>intros)
 .have U:¬((d+1:Nat):Int)<2:=H1
  repeat' ((conv=>whnf);(first|refine BI hd ?_|refine AV ?_|refine LP.go (by first|  exact Gx.a|exact (hL.ops hz).a) ?_ ?_|refine tJ.go GZ f8 ‹_› ‹_› ‹_› ?_ ?_|refine CJ ?_|refine El ?_|exact CV|fail)<;>intros)
def Mg (L:DL) (p:Bool×List Nd×Nd):Rd Nd:=.seq (.loop (Oj L) p.2.1) λl=>.seq (Bo 15 [125]) λc=>.ret (Al 12 (l++[c]))
theorem lQ:O6 L l=.seq (Cm [1,3]) λU=>.seq (Gu L.exp 10 [61] [U]) λf=>.look λs=>
 if AP s 15 [44]=true then .seq AB λc=>.ret (.inl (l++[Al 13 f]++[c])) else .ret (.inr (l++[Al 13 f])):=by
 simp only [O6,Gu,Rd.seq_assoc,Rd.On,List.cons_append,List.nil_append]
theorem mc {c P:Prop} [Decidable c] (h:if c then P else P):P:=by split at h<;>exact h
theorem iO (hd:d<=1000000) (hL:Kg d L stm opd full) (hm:mu s<=100000000) (hc:Rx st0 st rows) (e:AP s 15 [123]=true) (h:Rd.wp (HQ L n) s (λv s'=>∀st',Rx st0 st' rows->K (.ret (Ax v s' 0)) st') (λe s'=>∀n st',Rx st0 st' rows->K (.ret (Ax n s' e.1)) st')):
 PC 245 [Ax n s 0,.int .i64 ((d+1:Nat):Int)] st K:=by
 unfold HQ at h
 rw [Rd.wp_seq] at h
 refine pB Tryz.func245 ?_
 repeat' ((conv=>whnf);first|(refine AV ?_;intros)|refine Rx.BE (l:=[_]) (hc.push [_]) (Nat.le_of_ble_eq_true rfl) (λown1 U hc=>?_)|refine Z7 ‹_› h e IR (λs1 hz hl hm h=>?_))
 refine ef (Mg L) (λp=>(p.1=true/\p.2.1.length=2)\/(p.1=false/\2<p.2.1.length)) (x0:=(true,[n,AJ (Aa s).1],AJ (Aa s).1)) (.inl ⟨rfl,rfl⟩) (λp s own=>[(5,.slice 6 (p.2.1.map Ap) own),(7,.bool p.1)]) (λp s own=>[(0,Dq p.2.2 s 0),(2,s.cells)]) [1,2,4,6] [1] (λp own=>(own,p.2.1)::rows) (λp=>p.2.1.length) _ hm hc h (by show 2+_<=_;omega) Yl ?_
 rintro ⟨first,l,x⟩ s1 U own1 hp hm1 hm2 hc h hl
 dsimp only at hp hc h hl
 simp only [Mg,Rd.wp_seq,Rd.wp_loop,Oj,lQ,Cm,Rd.Ag,Rd.Ao,Rd.wp_ret,Rd.AO] at h
 have hcont:∀k:Int,([1,3]:List Int).contains k=true↔(k=1\/k=3):=λk=>by simp
 simp only [hcont] at h
 rcases hp with ⟨rfl,hp⟩|⟨rfl,hp⟩
 .rw [if_neg (show ¬(2:Int)<(l.length:Int) by omega)] at h
  by_cases k1:(Aa s1).1.kind=1
  .rw [if_pos (show (Aa s1).1.kind=1\/(Aa s1).1.kind=3 from .inl k1)] at h
   repeat' ((conv=>whnf);first|refine BI hd ?_|(refine AV ?_;intros)|refine aw.go (l:=[_]) (own:=.full) (FF IR hL.exp) (Nat.le_of_ble_eq_true rfl) ‹_› (hc.push [_]) h (λl' n own' s1 U hr hl hm hc h=>?_) (λe l' n own' s1 U he hc h=>?_)|refine Rx.BE hc.drop la (λown1 U hc=>?_)|exact Ae hc.drop.drop (h _) rfl|exact ⟨⟨(_,_,_),s1,_,_⟩,⟨(.inr ⟨rfl,f8⟩),‹_›,GE,hc,(by simp only [Mg,Rd.wp_seq,Rd.wp_ret]<;>exact Rd.Bh h H1),f8⟩,GE,Yl,St.le_refl _⟩|refine CJ ?_|(refine IE ?_ ?_<;>intro e h)|(refine Jx ?_;intro s1 hz hl hm h)|(refine jS ?_ ?_<;>(first|intro n s1 U hr hl hm hc h|intro e n s1 U he hc h))|(refine Rh ?_;intro e he h)|(refine El ?_;intro own1 U hc)|exact CV|fail)
  .by_cases k3:(Aa s1).1.kind=3
   .rw [if_pos (show (Aa s1).1.kind=1\/(Aa s1).1.kind=3 from .inr k3)] at h
    repeat' ((conv=>whnf);first|refine BI hd ?_|(refine AV ?_;intros)|refine aw.go (l:=[_]) (own:=.full) (FF IR hL.exp) (Nat.le_of_ble_eq_true rfl) ‹_› (hc.push [_]) h (λl' n own' s1 U hr hl hm hc h=>?_) (λe l' n own' s1 U he hc h=>?_)|refine Rx.BE hc.drop la (λown1 U hc=>?_)|exact Ae hc.drop.drop (h _) rfl|exact ⟨⟨(_,_,_),s1,_,_⟩,⟨(.inr ⟨rfl,f8⟩),‹_›,GE,hc,(by simp only [Mg,Rd.wp_seq,Rd.wp_ret]<;>exact Rd.Bh h H1),f8⟩,GE,Yl,St.le_refl _⟩|refine CJ ?_|(refine IE ?_ ?_<;>intro e h)|(refine Jx ?_;intro s1 hz hl hm h)|(refine jS ?_ ?_<;>(first|intro n s1 U hr hl hm hc h|intro e n s1 U he hc h))|(refine Rh ?_;intro e he h)|(refine El ?_;intro own1 U hc)|exact CV|fail)
   .rw [if_neg (show ¬((Aa s1).1.kind=1\/(Aa s1).1.kind=3) from λe=>e.elim k1 k3)] at h
    repeat' ((conv=>whnf);first|(refine AV ?_;intros)|refine CJ ?_|(refine IE ?_ ?_<;>intro e h)|(refine Jx ?_;intro s1 hz hl hm h)|(refine jS ?_ ?_<;>(first|intro n s1 U hr hl hm hc h|intro e n s1 U he hc h))|(refine Rh ?_;intro e he h)|(refine El ?_;intro own1 U hc)|exact CV|fail)
 .rw [if_pos (show (2:Int)<(l.length:Int) by omega)] at h
  replace h:=mc h
  by_cases k1:(Aa s1).1.kind=1
  .rw [if_pos (show (Aa s1).1.kind=1\/(Aa s1).1.kind=3 from .inl k1)] at h
   repeat' ((conv=>whnf);first|refine BI hd ?_|(refine AV ?_;intros)|refine aw.go (l:=[_]) (own:=.full) (FF IR hL.exp) (Nat.le_of_ble_eq_true rfl) ‹_› (hc.push [_]) h (λl' n own' s1 U hr hl hm hc h=>?_) (λe l' n own' s1 U he hc h=>?_)|refine Rx.BE hc.drop la (λown1 U hc=>?_)|exact Ae hc.drop.drop (h _) rfl|exact ⟨⟨(_,_,_),s1,_,_⟩,⟨(.inr ⟨rfl,f8⟩),‹_›,GE,hc,(by simp only [Mg,Rd.wp_seq,Rd.wp_ret]<;>exact Rd.Bh h H1),f8⟩,GE,Yl,St.le_refl _⟩|refine CJ ?_|(refine IE ?_ ?_<;>intro e h)|(refine Jx ?_;intro s1 hz hl hm h)|(refine jS ?_ ?_<;>(first|intro n s1 U hr hl hm hc h|intro e n s1 U he hc h))|(refine Rh ?_;intro e he h)|(refine El ?_;intro own1 U hc)|exact CV|fail)
  .by_cases k3:(Aa s1).1.kind=3
   .rw [if_pos (show (Aa s1).1.kind=1\/(Aa s1).1.kind=3 from .inr k3)] at h
    repeat' ((conv=>whnf);first|refine BI hd ?_|(refine AV ?_;intros)|refine aw.go (l:=[_]) (own:=.full) (FF IR hL.exp) (Nat.le_of_ble_eq_true rfl) ‹_› (hc.push [_]) h (λl' n own' s1 U hr hl hm hc h=>?_) (λe l' n own' s1 U he hc h=>?_)|refine Rx.BE hc.drop la (λown1 U hc=>?_)|exact Ae hc.drop.drop (h _) rfl|exact ⟨⟨(_,_,_),s1,_,_⟩,⟨(.inr ⟨rfl,f8⟩),‹_›,GE,hc,(by simp only [Mg,Rd.wp_seq,Rd.wp_ret]<;>exact Rd.Bh h H1),f8⟩,GE,Yl,St.le_refl _⟩|refine CJ ?_|(refine IE ?_ ?_<;>intro e h)|(refine Jx ?_;intro s1 hz hl hm h)|(refine jS ?_ ?_<;>(first|intro n s1 U hr hl hm hc h|intro e n s1 U he hc h))|(refine Rh ?_;intro e he h)|(refine El ?_;intro own1 U hc)|exact CV|fail)
   .rw [if_neg (show ¬((Aa s1).1.kind=1\/(Aa s1).1.kind=3) from λe=>e.elim k1 k3)] at h
    repeat' ((conv=>whnf);first|(refine AV ?_;intros)|refine CJ ?_|(refine IE ?_ ?_<;>intro e h)|(refine Jx ?_;intro s1 hz hl hm h)|(refine jS ?_ ?_<;>(first|intro n s1 U hr hl hm hc h|intro e n s1 U he hc h))|(refine Rh ?_;intro e he h)|(refine El ?_;intro own1 U hc)|exact CV|fail)
end
def Ym (exp:Rd Nd) (p:List Nd×Nd×Nat):Rd Nd:=.seq (.loop (Yj exp) p.1) λq=>FN q.1 q.2 [93]
theorem vM {exp stmt:Rd Nd}:PW exp stmt o=.seq exp λe=>.look λs=>if AP s 10 [124]=true then .seq (Es stmt ([o]++[e])) λl=>FN 8 l [93] else Ym exp ([o]++[e],e,1):=rfl
def WW (L:DL) (o:Nd):Rd Nd:=.look λs=>if AP s 15 [93]=true then .seq AB λc=>.ret (Al 3 [o,c]) else L.list o
theorem oI:Mn L=.seq AB λo=>WW L o:=rfl
section
variable {st0 st:St} {s:Af} {rows:List (Ay×List Nd)} {K:AD->St->Prop} {E:Er->Af->Prop} {d:Nat} {L:DL} {atom stm opd full:Rd Nd} {o:Nd}
theorem Is {own:Ay} (e:AP s 15 x=true) (hl:l.length<=900000000) (hm:mu s<=100000000) (hc:Rx st0 st ((own,l)::rows)) (h:Rd.wp AB s Q E)
 (k:∀c s' st',mu s'<=100000000->Rx st0 st' rows->Q c s'->K (.ret (Ax (Al kd (l++[c])) s' 0)) st'):PC 370 [.int .i64 kd,.slice 6 (l.map Ap) own,Am s,.str x] st K:=
 (GZ (k:=kd) (x:=x)).ap hl hm hc (gk e (by
   have U:=Fp e IR
   rw [OE U] at h |-
   exact λst' c=>k _ _ _ (by have:=(De U).1;omega) c h))
theorem LF {exp:Rd Nd} {k:Int} {own:Ay} {Q:Nd->Nd->Af->Prop} (hk:k≠0/\k≠21) (he:Ba 258 (λs=>[Am s,.int .i64 D]) exp) (e:AP s k x=true) (hl:l.length<=900000000) (hm:mu s<=100000000) (hc:Rx st0 st ((own,l)::rows))
 (h:Rd.wp AB s (λc s'=>Rd.wp exp s' (λn s2=>Q c n s2) E) E)
 (kk:∀c n n' U s2 st',mu s2<mu s->mu s2<=100000000->Rx st0 st' ((U,l++[c]++[n])::rows)->Q c n s2->K (.ret (.Bl [.slice 6 ((l++[c]++[n]).map Ap) U,Ax n' s2 0])) st')
 (kb:∀e l' n U s' st',¬e.1=0->Rx st0 st' ((U,l')::rows)->E e s'->K (.ret (.Bl [.slice 6 (l'.map Ap) U,Ax n s' e.1])) st'):PC 191 [.slice 6 (l.map Ap) own,Am s,.int .i64 k,.str x,.int .i64 D] st K:=
 (FF (x:=x) hk.1 he).ap hl hm hc (by
   have hz:=Fp e hk.1
   have hlt:=C6 e hk.1 hk.2
   simp only [Gu,Rd.wp_seq,Rd.wp_ret]
   refine fG e ?_
   rw [OE hz] at h |-
   exact Rd.wp_mono h (λn s2 r q n' U st' c=>by have:=exp.le _ _ _ r;exact kk _ n n' U s2 st' H1 H1 c q) (λe s' _ q l' n U st' c=>kb e l' n U s' st' e.2 c q))
attribute [local irreducible] Go.Aw.Ai
theorem cC (hd:d<=1000000) (hL:Kg d L stm opd full):Ba 317 (λs=>[.slice 6 [Ap o] .full,Am s,.int .i64 ((d+1:Nat):Int)]) (WW L o):=by
 refine ⟨λ{st0 s st rows K} hm hc h=>?_⟩
 unfold WW at h
 rw [Rd.Ag,Rd.Ao,Rd.wp_seq] at h
 simp only [Rd.wp_ret] at h
 refine pB Tryz.func317 ?_
 by_cases hz:d=0
 .have e:=hL.zero hz
  have hx:=hL.exp
  subst e
  simp only [bL,Rd.BD] at h
  repeat' ((conv=>whnf);first|refine BI hd ?_|(refine AV ?_;intros)|refine Ba.go hx ‹_› hc (Q:=λ_ _=>False) (E:=λe s'=>∀n st',Rx st0 st' rows->K (.ret (Ax n s' e.1)) st') h (λn s1 U hr hl hm hc h=>?_) (λe n s1 U he hc h=>?_)|refine Is (l:=[_]) (own:=.full) ‹_› (Nat.le_of_ble_eq_true rfl) ‹_› (hc.push [_]) h (λn s1 U hm hc h=>?_)|exact h.elim|(refine IE ?_ ?_<;>intro e h)|(refine Jx ?_;intro s1 hz hl hm h)|(refine El ?_;intro own1 U hc)|exact CV|fail)
 .rw [hL.list hz,vM] at h
  simp only [Rd.wp_seq,Rd.Ag,Rd.Ao] at h
  repeat' ((conv=>whnf);first|refine BI hd ?_|(refine AV ?_;intros)|refine Ba.go hL.exp ‹_› hc h (λn s1 U hr hl hm hc h=>?_) (λe n s1 U he hc h=>?_)|refine Is (l:=[_]) (own:=.full) ‹_› (Nat.le_of_ble_eq_true rfl) ‹_› (hc.push [_]) h (λn s1 U hm hc h=>?_)|refine aw.go (Uv hL.yR) (Nat.le_of_ble_eq_true rfl) ‹_› hc h (λl' n own' s1 U hr hl hm hc h=>?_) (λe l' n own' s1 U he hc h=>?_)|refine tJ.go GZ (by have:=Me ‹_›<;>simp only [List.length_append,List.length_cons,List.length_nil] at this<;>omega) ‹_› hc h (λn s1 U hr hl hm hc h=>?_) (λe n s1 U he hc h=>?_)|(refine IE ?_ ?_<;>intro e h)|(refine Jx ?_;intro s1 hz hl hm h)|(refine El ?_;intro own1 U hc)|exact CV|fail)
  refine ef (Ym L.exp) (λp=>p.1.length=2*p.2.2) (x0:=([o]++[_],_,1)) rfl (λp s own=>[(0,.slice 6 (p.1.map Ap) own),(8,.int .i64 (p.2.2:Int))]) (λp s own=>[(2,Dq p.2.1 s 0)]) [2,6,7] [1] (λp own=>(own,p.1)::rows) (λp=>p.1.length) _ ‹_› hc h (by show 2+_<=_;omega) Yl ?_
  rintro ⟨l,n,k⟩ s1 U own1 hp hm1 hm2 hc h hl
  dsimp only at hp hc h hl |-
  simp only [Ym,Yj,Yk,Rd.wp_seq,Rd.wp_loop,Rd.Ag,Rd.Ao,Rd.wp_ret,Rd.AO] at h
  by_cases hk:(k:Int)<3
  .rw [if_pos H1] at h
   repeat' ((conv=>whnf);first|refine BI hd ?_|refine Wq (a:=(k:Int)+1) H1 H1 ?_|(refine AV ?_;intros)|refine Ba.go hL.exp ‹_› hc h (λn s1 U hr hl hm hc h=>?_) (λe n s1 U he hc h=>?_)|refine tJ.go GZ f8 ‹_› hc h (λn s1 U hr hl hm hc h=>?_) (λe n s1 U he hc h=>?_)|refine tJ.go GZ H1 ‹_› hc h (λn s1 U hr hl hm hc h=>?_) (λe n s1 U he hc h=>?_)|refine LF IR hL.exp ‹_› H1 ‹_› hc h (λc n n' own1 s1 U hl hm hc h=>?_) (λe l' n own' s1 U he hc h=>?_)|exact ⟨⟨(_,_,k+1),s1,_,_⟩,⟨f8,‹_›,GE,hc,(by simp only [Ym,Rd.wp_seq]<;>exact Rd.Bh h H1),f8⟩,GE,Yl,St.le_refl _⟩|(refine IE ?_ ?_<;>intro e h)|(refine Jx ?_;intro s1 hz hl hm h)|(refine El ?_;intro own1 U hc)|exact CV|fail)
  .rw [if_neg H1] at h
   repeat' ((conv=>whnf);first|refine BI hd ?_|refine Wq (a:=(k:Int)+1) H1 H1 ?_|(refine AV ?_;intros)|refine tJ.go GZ H1 ‹_› hc h (λn s1 U hr hl hm hc h=>?_) (λe n s1 U he hc h=>?_)|refine LF IR hL.exp ‹_› H1 ‹_› hc h (λc n n' own1 s1 U hl hm hc h=>?_) (λe l' n own' s1 U he hc h=>?_)|exact ⟨⟨(_,_,k+1),s1,_,_⟩,⟨f8,‹_›,GE,hc,(by simp only [Ym,Rd.wp_seq]<;>exact Rd.Bh h H1),f8⟩,GE,Yl,St.le_refl _⟩|(refine IE ?_ ?_<;>intro e h)|(refine Jx ?_;intro s1 hz hl hm h)|(refine El ?_;intro own1 U hc)|exact CV|fail)
theorem SL:Ba 366 (λs=>[.slice 6 [Ap o] .full,Am s]) (N1 o):=by
 refine ⟨λ{st0 s st rows K} hm hc h=>?_⟩
 unfold N1 at h
 refine pB Tryz.func366 ?_
 repeat' ((conv=>whnf);(first|refine AV ?_|fail)<;>intros)
 refine Hg (λl=>.seq (.loop NP l) λl=>.seq (Bo 15 [41]) λc=>.ret (Al 3 (l++[c]))) (x0:=[o]) (λl s own=>[(0,.slice 6 (l.map Ap) own)]) (λl s own=>[(0,s.cells)]) [3,4] [1] (λl own=>(own,l)::rows) (λl=>l.length) .full hm (hc.push [o]) h (by show 1+_<=_;omega) Yl ?_
 intro l s1 U own1 hm1 hm2 hc h hl
 simp only [NP,Rd.wp_seq,Rd.wp_loop,Rd.Ag,Rd.Ao,Rd.wp_ret,Rd.AO] at h
 repeat' ((conv=>whnf);first|(refine AV ?_;intros)|exact ⟨⟨_,s1,_,_⟩,⟨‹_›,GE,hc,(by simp only [Rd.wp_seq,Rd.wp_ret]<;>exact Rd.Bh h H1),f8⟩,GE,Yl,St.le_refl _⟩|(refine IE ?_ ?_<;>intro e h)|(refine Jx ?_;intro s1 hz hl hm h)|(refine jS ?_ ?_<;>(first|intro n s1 U hr hl hm hc h|intro e n s1 U he hc h))|(refine El ?_;intro own1 U hc)|exact CV|fail)
end
def V9 (L:DL) (o:Nd):Rd Nd:=.look λs=>if AP s 15 [41]=true then N1 o else if AP s 15 [44]=true then N1 o else Pn L o
theorem sw:Po L=.seq AB λo=>V9 L o:=rfl
section
variable {st0 st:St} {s:Af} {rows:List (Ay×List Nd)} {K:AD->St->Prop} {E:Er->Af->Prop} {d:Nat} {L:DL} {atom stm opd full:Rd Nd} {o:Nd}
theorem cB (hd:d<=1000000) (hL:Kg d L stm opd full) (hm:mu s<=100000000) (hc:Rx st0 st rows) (e:AP s 15 [123]=true) (h:Rd.wp (HQ L n) s Q E)
 (k:∀U s' st',mu s'<mu s->mu s'<=100000000->Rx st0 st' rows->Q U s'->K (.ret (Ax U s' 0)) st')
 (kb:∀e n s' st',¬e.1=0->Rx st0 st' rows->E e s'->K (.ret (Ax n s' e.1)) st'):PC 245 [Ax n s 0,.int .i64 ((d+1:Nat):Int)] st K:=
 iO hd hL hm hc e (Rd.wp_mono h (λv s' r q st' c=>by have:=NV r e;exact k v s' st' this H1 c q) (λe s' _ q n st' c=>kb e n s' st' e.2 c q))
def vj:Option Er->Int
 |none=>0
 |some e=>e.1
theorem rJ (T:Nd->Rd Nd) {x0:Nd} (g:Nd->Af->Int->List (Nat×List V)) (keep kb:List Nat) (hm:mu s<=100000000) (hc:Rx st0 st rows) (h:Rd.wp (T x0) s Q E)
 (he:(env.EG [] (g x0 s 0) keep kb).C3 env)
 (hb:∀x s1 U,mu s1<=100000000->Rx st0 U rows->Rd.wp (T x) s1 Q E->ih (Bz (λenv' st'=>∃y:LS (Nd×Option Er),(match y.x.2 with
   |none=>mu y.s<=100000000/\Rx st0 y.m rows/\Rd.wp (T y.x.1) y.s Q E
   |some e=>Rx st0 y.m rows/\E e y.s)/\(match y.x.2 with
   |none=>mu y.s+1
   |some _=>0)<mu s1+1/\(env.EG [] (g y.x.1 y.s (vj y.x.2)) keep kb).C3 env'/\St.le y.m st') Q0) (env.EG [] (g x s1 0) keep kb) U)
 (hbe:∀n (e:Er) s1 U,¬e.1=0->Rx st0 U rows->E e s1->∀P,ih (Bz P Q0) (env.EG [] (g n s1 e.1) keep kb) U):
 ∃(α:Type) (E:α->Env) (S:α->St) (J:α->Prop) (μ:α->Nat) (x0:α),J x0/\(E x0).C3 env/\St.le (S x0) st/\
  ∀x,J x->ih (Bz (λenv' st'=>∃y,J y/\μ y<μ x/\(E y).C3 env'/\St.le (S y) st') Q0) (E x) (S x):=
 ⟨LS (Nd×Option Er),λy=>env.EG [] (g y.x.1 y.s (vj y.x.2)) keep kb,λy=>y.m,λy=>match y.x.2 with
   |none=>mu y.s<=100000000/\Rx st0 y.m rows/\Rd.wp (T y.x.1) y.s Q E
   |some e=>Rx st0 y.m rows/\E e y.s,λy=>match y.x.2 with
   |none=>mu y.s+1
   |some _=>0,⟨(x0,none),s,st,.full⟩,⟨hm,hc,h⟩,he,St.le_refl _,by
   rintro ⟨⟨x,o⟩,s1,m,w⟩ j
   cases o with
   |none=>exact hb x s1 m j.1 j.2.1 j.2.2
   |some e=>exact hbe x e s1 m e.2 j.1 j.2 _⟩
attribute [local irreducible] Go.Aw.Ai
theorem nx (hd:d<=1000000) (hL:Kg d L stm opd full) (hb:Ba 244 (λs=>[Am s,.int .i64 ((d+1:Nat):Int)]) (KT L)):Ba 188 (λs=>[Am s,.int .i64 ((d+1:Nat):Int)]) (KS L):=by
 refine ⟨λ{st0 s st rows K} hm hc h=>?_⟩
 unfold KS at h
 rw [Rd.wp_seq] at h
 refine pB Tryz.func188 ?_
 repeat' ((conv=>whnf);first|(refine AV ?_;intros)|refine Ba.go hb ‹_› hc h (λn s1 U hr hl hm hc h=>?_) (λe n s1 U he hc h=>?_))
 .refine rJ (λn=>Rd.loop (Xw L) n) (x0:=n) (λn s e=>[(2,Dq n s e)]) [1,4,5] [1] hm hc h Yl (λn s1 U hm1 hc h=>?_) (λn e s1 U he hc h P=>?_)
  .simp only [Xw,Rd.wp_seq,Rd.wp_loop,Rd.Ag,Rd.Ao,Rd.wp_ret,Rd.AO] at h
   repeat' ((conv=>whnf);first|(refine AV ?_;intros)|refine cB hd hL ‹_› hc ‹_› h (λn s1 U hl hm hc h=>?_) (λe n s1 U he hc h=>?_)|exact ⟨⟨(_,none),s1,_,.full⟩,⟨‹_›,hc,Rd.Bh h H1⟩,(by show mu s1+1<_<;>omega),Yl,St.le_refl _⟩|exact ⟨⟨(_,some e),s1,_,.full⟩,⟨hc,h⟩,(by show 0<_<;>omega),Yl,St.le_refl _⟩|(refine IE ?_ ?_<;>intro e h)|exact CV|fail)
  .skip
   repeat' ((conv=>whnf);first|(refine AV ?_;intros)|(refine IE ?_ ?_<;>intro e h)|exact CV|fail)
 .refine Pa [] [(2,Dq n s1 e.1)] [1,4,5] [1] Yl (λP=>?_)
  repeat' ((conv=>whnf);first|(refine AV ?_;intros)|(refine IE ?_ ?_<;>intro e h)|exact CV|fail)
theorem kv:xo (KT L):=λs h=>by
 unfold KT Rd.look
 dsimp only
 rw [if_neg (by rw [h];decide)]
theorem ku:xo (KS L):=λs h=>by
 unfold KS Rd.seq
 dsimp only
 rw [kv s h]
 rfl
theorem ny (hd:d<=1000000) (hL:Kg d L stm opd full) (hr0:∀o,Ba 316 (λs=>[.slice 6 [Ap o] .full,Am s,.int .i64 ((d+1:Nat):Int)]) (V9 L o)):Ba 244 (λs=>[Am s,.int .i64 ((d+1:Nat):Int)]) (KT L):=by
 refine ⟨λ{st0 s st rows K} hm hc h=>?_⟩
 refine pB Tryz.func244 ?_
 cases ha:DI (Aa s).1 with
 |false=>
  unfold KT at h
  rw [Rd.Ag,if_neg (by rw [ha];decide)] at h
  repeat' ((conv=>whnf);(first|refine AV ?_|refine CJ ?_|refine IE ?_ ?_|refine Jx ?_|refine Rh ?_|refine El ?_|exact CV|fail)<;>intros)
 |true=>
  have hkd:=LQ ha
  simp only [KT,sw,oI,Rd.Ag,Rd.Ao,Rd.wp_seq,Rd.wp_ret] at h
  rw [if_pos ha] at h
  by_cases k15:(Aa s).1.kind=15
  .rw [if_pos (beq_iff_eq.2 k15)] at h
   by_cases ho:(Aa s).1.text=[40]
   .rw [if_pos (beq_iff_eq.2 ho)] at h
    repeat' ((conv=>whnf);(first|refine AV ?_|refine LP.go (by first|  exact (hr0 _).a) ?_ ?_|refine CJ ?_|refine IE ?_ ?_|refine Jx ?_|refine Rh ?_|refine El ?_|exact CV|fail)<;>intros)
   .rw [if_neg (λe=>ho (beq_iff_eq.1 e))] at h
    repeat' ((conv=>whnf);(first|refine AV ?_|refine LP.go (by first|  exact (cC hd hL).a) ?_ ?_|refine CJ ?_|refine IE ?_ ?_|refine Jx ?_|refine Rh ?_|refine El ?_|exact CV|fail)<;>intros)
  .rw [if_neg (λe=>k15 (beq_iff_eq.1 e))] at h
   by_cases k9:(Aa s).1.kind=9
   .rw [if_pos (beq_iff_eq.2 k9)] at h
    repeat' ((conv=>whnf);(first|refine AV ?_|refine CJ ?_|refine IE ?_ ?_|refine Jx ?_|refine Rh ?_|refine El ?_|exact CV|fail)<;>intros)
   .rw [if_neg (λe=>k9 (beq_iff_eq.1 e))] at h
    by_cases k10:(Aa s).1.kind=10
    .rw [if_pos (beq_iff_eq.2 k10)] at h
     by_cases U:d=0
     .have hlt:((d+1:Nat):Int)<2:=H1
      have e:=hL.zero U
      subst e
      simp only [bL,Rd.BD] at h
      repeat' ((conv=>whnf);(first|refine AV ?_|refine CJ ?_|refine IE ?_ ?_|refine Jx ?_|refine Rh ?_|refine El ?_|exact CV|fail)<;>intros)
     .have hlt:¬((d+1:Nat):Int)<2:=H1
      repeat' ((conv=>whnf);(first|refine BI hd ?_|refine AV ?_|refine LP.go (by first|  exact (hL.atom U).a) ?_ ?_|refine CJ ?_|refine IE ?_ ?_|refine Jx ?_|refine Rh ?_|refine El ?_|exact CV|fail)<;>intros)
    .rw [if_neg (λe=>k10 (beq_iff_eq.1 e))] at h
     by_cases k1:(Aa s).1.kind=1
     .simp only [show ((Aa s).1.kind==1)=true from beq_iff_eq.2 k1,if_true] at h
      by_cases U:d=0
      .have hlt:((d+1:Nat):Int)<2:=H1
       have e:=hL.zero U
       subst e
       simp only [bL,Rd.BD] at h
       repeat' ((conv=>whnf);(first|refine AV ?_|refine CJ ?_|refine IE ?_ ?_|refine Jx ?_|refine Rh ?_|refine El ?_|exact CV|fail)<;>intros)
      .have hlt:¬((d+1:Nat):Int)<2:=H1
       repeat' ((conv=>whnf);(first|refine BI hd ?_|refine AV ?_|refine LP.go (by first|  exact (hL.atom U).a) ?_ ?_|refine CJ ?_|refine IE ?_ ?_|refine Jx ?_|refine Rh ?_|refine El ?_|exact CV|fail)<;>intros)
     .simp only [show ((Aa s).1.kind==1)=false from beq_eq_false_iff_ne.2 k1,Bool.false_eq_true,if_false] at h
      repeat' ((conv=>whnf);(first|refine AV ?_|refine CJ ?_|refine IE ?_ ?_|refine Jx ?_|refine Rh ?_|refine El ?_|exact CV|fail)<;>intros)
end
theorem Rx.mono {st:St} (h:Rx st0 st rows) (k:st.le st'):Rx st0 st' rows:=⟨St.le_trans h.le k,λr U=>by
 have:=h.ok r U
 obtain ⟨o,l⟩:=r
 cases o with
 |any=>exact this
 |full=>exact this
 |tok t=>exact ⟨this.1,k.2 _ _ this.2⟩,h.ap⟩
theorem Rx.free {st:St} (h:Rx st0 st rows) (hf:st0.box b=none):Rx st0 (st.Ab b cs) rows:=⟨St.Av h.le hf cs,λr U=>by
 have:=h.ok r U
 obtain ⟨o,l⟩:=r
 cases o<;>exact this,h.ap⟩
theorem Rx.zC {st:St} (h:Rx st0 st rows) (hf:st0.box b=none):Rx st0 (st.Ks b) rows:=⟨⟨λy c hy=>by
 have U:y≠b:=λe=>by subst e;rw [hf] at hy;cases hy
 show (if y=b then none else st.box y)=some c
 rw [if_neg U]
 exact h.le.1 _ _ hy,h.le.2⟩,λr hr=>by
 have:=h.ok r hr
 obtain ⟨o,l⟩:=r
 cases o<;>exact this,h.ap⟩
def Fh (st:St) (b cap:Nat) (l:List Nd):Prop:=∃m:List V,st.box b=some ((l.map Ap).flatten++m)/\l.length*6+m.length=cap*6
theorem L4:∀{l:List Nd},(l.map Ap).flatten.length=l.length*6
 |[]=>rfl
 |n::r=>by
  rw [List.map_cons,List.flatten_cons,List.length_append,L4,List.length_cons]
  show 6+_=_
  omega
theorem T3 {x:Nd}:((l++[x]).map Ap).flatten=(l.map Ap).flatten++Ap x:=by
 rw [List.map_append,List.flatten_append]
 show _++(Ap x++[])=_
 rw [List.append_nil]
theorem Fh.le {st st':St} {b cap:Nat} {l:List Nd} (h:Fh st b cap l) (k:st.le st'):Fh st' b cap l:=h.imp λm e=>⟨k.1 _ _ e.1,e.2⟩
theorem Fh.set {st:St} {m:Nat} (e:cs=(l.map Ap).flatten++List.replicate m .Cc) (h:l.length*6+m=cap*6):Fh (st.Ab b cs) b cap l:=⟨List.replicate m .Cc,by rw [St.As,e],by rw [List.length_replicate];exact h⟩
theorem Fh.pre {st:St} {x:Nd} (h:Fh st b cap (l++[x])):Fh st b cap l:=by
 obtain ⟨m,h1,U⟩:=h
 refine ⟨Ap x++m,by rw [h1,T3,List.append_assoc],?_⟩
 rw [List.length_append] at U |-
 have:(Ap x).length=6:=rfl
 simp only [List.length_singleton] at U
 omega
theorem ff {st:St} {x:Nd} (hc:Rx st0 st rows) (k:∀b cap st',st0.box b=none->Rx st0 st' rows->Fh st' b cap ([o]++[x])->K (.Eg 6 b 2 cap) st'):Ai 6 72 [Ap o] .full [Ap x] st K:=
 Tv (Nat.le_of_ble_eq_true rfl) (show 1+1<4611686018427387904 by decide) rfl Pi λb cap m hf U=>k b cap _ (hc.fresh hf).1 (hc.free (hc.fresh hf).1) (.set (m:=m) PP U)
theorem Ou {st:St} {n:Nat} {x:Nd} (hc:Rx st0 st rows) (hf:st0.box b=none) (hr:Fh st b cap l) (hn:n=l.length) (hb:l.length+1<=1000000000)
 (k:∀b' U st',st0.box b'=none->Rx st0 st' rows->Fh st' b' U (l++[x])->K (.Eg 6 b' (l++[x]).length U) st'):E2 6 72 b n cap [Ap x] st K:=by
 obtain ⟨m,h1,h2⟩:=hr
 subst hn
 have hl1:l.length+[Ap x].length=(l++[x]).length:=Pi
 refine ⟨by rw [hl1,List.length_append];simp only [List.length_singleton];omega,by rw [hl1,List.length_append];simp only [List.length_singleton];unfold Fk;omega,A7 rfl ⟨Pi,_,h1,by rw [List.length_append,L4];exact h2,λb' U m' hb' hm'=>?_⟩⟩
 have hf':st0.box b'=none:=by
  rcases hb' with rfl|hb'
  .exact hf
  .exact (hc.fresh hb').1
 rw [hl1] at hm' |-
 refine k b' U _ hf' (hc.free hf') (.set (m:=m') ?_ hm')
 rw [T3]
 congr 1
 rw [List.take_append_of_le_length (by rw [L4];omega),List.take_of_length_le (by rw [L4];omega)]
 congr 1
section
variable {st0 st:St} {s:Af} {rows:List (Ay×List Nd)} {K:AD->St->Prop} {E:Er->Af->Prop} {d:Nat} {L:DL} {atom stm opd full:Rd Nd} {o:Nd}
theorem Ba.zk {mk:Af->List V} {A:Rd Nd} (hf:Ba f mk A) (U:mu s<=100000000) (hc:Rx st0 st rows) (hr:Fh st b cap l) (h:Rd.wp A s Q E)
 (k:∀n s' st',mu s'<=mu s->mu s'<=100000000->Rx st0 st' rows->Fh st' b cap l->Q n s'->K (.ret (Ax n s' 0)) st')
 (kb:∀e n s' st',¬e.1=0->Rx st0 st' rows->Fh st' b cap l->E e s'->K (.ret (Ax n s' e.1)) st'):PC f (mk s) st K:=
 hf.ap (st0:=st) (rows:=[]) U Rx.start (Rd.wp_mono h (λv s' r q st' c=>k v s' st' (A.le _ _ _ r) (Nat.le_trans (A.le _ _ _ r) U) (hc.mono c.le) (hr.le c.le) q) (λe s' _ q n st' c=>kb e n s' st' e.2 (hc.mono c.le) (hr.le c.le) q))
theorem pG {k:Int} (hm:mu s<=100000000) (h:Rd.wp AB s Q E) (e:AP s k x=true) (U:k≠0/\k≠21) (kk:∀s1,(Aa s).2.1=s1->mu s1<mu s->mu s1<=100000000->Q (AJ (Aa s).1) s1->K (.ret (Ax (AJ (Aa s).1) s1 0)) st):PC 75 [Am s,.int .i64 k,.str x] st K:=by
 have hlt:=C6 e U.1 U.2
 have hz:=Fp e U.1
 unfold Rd.wp at h;rw [C8 hz] at h
 refine Ov U.1 (BT hm) ?_
 unfold DB
 rw [if_pos e,DK e U.1]
 exact kk _ rfl hlt H1 h
attribute [local irreducible] Go.Aw.Ai
attribute [local irreducible] Go.Aw.E2
def yO (kd:Int) (b n cap:Nat) (s:Af) (e:Int):V:=.agg [.int .i64 kd,.int .i64 0,.str [],.int .i64 0,.int .i64 0,.Eg 6 b n cap,.slice 4 (Bb s.AR) .any,.int .i64 s.pos,.slice 1 (ints s.Cf) .any,.int .i64 s.wait,.int .i64 e]
theorem ss {k:Int} {n:Nat} (h:K (.ret (.agg [.int .i64 k,.int .i64 0,.str [],.int .i64 0,.int .i64 0,.Eg 6 b n cap])) st):PC 117 [.int .i64 k,.Eg 6 b n cap] st K:=by
 refine pB Tryz.func117 ?_
 repeat' ((conv=>whnf);(first|  fail)<;>intros)
 all_goals exact fin h rfl
theorem Ur (hl:l.length<=900000000) (hm:mu s<=100000000) (hc:Rx st0 st rows) (hf:st0.box b=none) (hr:Fh st b cap l)
 (h:Rd.wp (FN kd l [41]) s (λv s'=>∀st',Rx st0 st' rows->K (.ret (Ax v s' 0)) st') (λe s'=>∀n st',Rx st0 st' rows->K (.ret (Ax n s' e.1)) st')):PC 370 [.int .i64 kd,.Eg 6 b l.length cap,Am s,.str [41]] st K:=by
 refine Bp.freeze (R':=λr st'=>∃b' U l' s' e',st0.box b'=none/\Rx st0 st' rows/\Fh st' b' U l'/\r=.ret (yO kd b' l'.length U s' e')/\∀st2,Rx st0 st2 rows->K (.ret (Ax (Al kd l') s' e')) st2) ?_ ?_
 .simp only [FN,Rd.wp_seq,Rd.wp_ret] at h
  refine pB Tryz.func370 ?_
  repeat' ((conv=>whnf);first|  refine Ba.zk (J5 IR) ‹_› hc hr h (λn s1 st1 hl2 hm hc hr h=>?_) (λe n s1 st1 he hc hr h=>?_)|refine Ou hc hf hr rfl H1 (λb' U st1 hf hc hr=>?_)|refine ss ?_|exact ⟨_,_,.inl rfl,St.le_refl _,_,_,_,_,_,hf,hc,hr,rfl,h⟩|exact ⟨_,_,.inl rfl,St.le_refl _,_,_,_,_,_,hf,hc,hr,rfl,h _⟩)
 .rintro r s2 ⟨b',U,l',s',e',hf',hc',⟨m,h1,h2⟩,rfl,hk⟩
  refine .inr ⟨b',6,l'.length,U,l'.map Ap,m,.ret (.agg [.int .i64 kd,.int .i64 0,.str [],.int .i64 0,.int .i64 0,.slice 6 (l'.map Ap) .any,.slice 4 (Bb s'.AR) .any,.int .i64 s'.pos,.slice 1 (ints s'.Cf) .any,.int .i64 s'.wait,.int .i64 e']),h1,?_,Pi,.agg (.cons (.same _) (.cons (.same _) (.cons (.same _) (.cons (.same _) (.cons (.same _) (.cons .here (.cons (.same _) (.cons (.same _) (.cons (.same _) (.cons (.same _) (.cons (.same _) .nil))))))))))),?_⟩
  .intro e he
   obtain ⟨n,_,rfl⟩:=List.mem_map.1 he
   rfl
  .have:=hk _ (hc'.zC hf')
   rw [Ak (own:=.any)] at this
   exact this
theorem eW {exp:Rd Nd} {Q:Nd->Nd->Af->Prop} (he:Ba 258 (λs=>[Am s,.int .i64 D]) exp) (e:AP s 15 [44]=true) (hl:l.length<=900000000) (hm:mu s<=100000000) (hc:Rx st0 st rows) (hf:st0.box b=none) (hr:Fh st b cap l)
 (h:Rd.wp AB s (λc s'=>Rd.wp exp s' (λn s2=>Q c n s2) E) E)
 (kk:∀c n b' U s2 st',mu s2<mu s->mu s2<=100000000->st0.box b'=none->Rx st0 st' rows->Fh st' b' U (l++[c]++[n])->Q c n s2->K (.ret (.Bl [.Eg 6 b' (l++[c]++[n]).length U,Ax n s2 0])) st')
 (kb:∀e l' n b' U s' st',¬e.1=0->st0.box b'=none->Rx st0 st' rows->Fh st' b' U l'->E e s'->K (.ret (.Bl [.Eg 6 b' l'.length U,Ax n s' e.1])) st'):PC 191 [.Eg 6 b l.length cap,Am s,.int .i64 15,.str [44],.int .i64 D] st K:=by
 refine pB Tryz.func191 ?_
 repeat' ((conv=>whnf);first|exact C1|(refine AV ?_;intros)|(refine C2 ?_ ?_ ?_;rotate_left)|refine pG ‹_› h e IR (λs1 hz hl1 hm h=>?_)|refine Ou hc hf hr rfl H1 (λb' U st1 hf hc hr=>?_)|refine Ou hc hf hr rfl f8 (λb' U st1 hf hc hr=>?_)|refine Ba.zk he ‹_› hc hr h (λn s1 st1 hl2 hm hc hr h=>?_) (λe n s1 st1 he hc hr h=>?_)|exact ⟨_,_,.inl rfl,St.le_refl _,kk _ _ _ _ _ _ H1 ‹_› hf hc hr h⟩|exact ⟨_,_,.inl rfl,St.le_refl _,kb _ _ _ _ _ _ _ ‹_› hf hc hr h⟩|refine Ad 4 [3] [1] ?_|refine Ad 4 [3] [1] ?_|fail)
end
def Qu (exp:Rd Nd) (kd:Int) (l:List Nd) (n:Nd):Rd Nd:=.seq (.loop (Ti exp) (kd,l++[n])) λq=>FN q.1 q.2 [41]
theorem qs {opd full exp:Rd Nd}:ER opd full exp o=.seq (H8 opd true) λp=>if p.2=true then .seq AB λc=>.ret (Al 9 [o,Jr 17 (p.1.take (p.1.length - 1)),p.1.getLastD BC,c])
 else .seq (Jt full (Jr 17 p.1)) λe=>Qu exp 4 [o] e:=rfl
theorem nN:Pn L o=.look λs=>if HD (Aa s).1=true then
 (if AP (Aa s).2.1 15 [41]=true then .seq AB λp=>.seq AB λc=>.ret (Al 3 [o,p,c]) else KM L o) else KM L o:=rfl
theorem nO:KM L o=.look λs=>if Gp (Aa s).1=true then (if AP s 5 [45]=true then L.F1 o else LJ L o) else L.F1 o:=by
 unfold KM LJ
 simp only [FN,List.cons_append,List.nil_append]
structure RS where
 tag:Bool
 l:List Nd
 n:Nd
 s:Af
 e:Option Er
 kd:Int
 b:Nat
 cap:Nat
 m:St
section
variable {st0 st:St} {s:Af} {rows:List (Ay×List Nd)} {K:AD->St->Prop} {E:Er->Af->Prop} {d:Nat} {L:DL} {atom stm opd full:Rd Nd} {o:Nd}
theorem wI {Q:List Nd×Bool->Af->Prop} (ho:tK 186 (λs=>[Am s,.int .i64 D,.bool true]) (H8 opd true)) (hm:mu s<=100000000) (hc:Rx st0 st rows) (h:Rd.wp (H8 opd true) s Q E)
 (k:∀l s' st',mu s'<=mu s->mu s'<=100000000->Rx st0 st' rows->Q (l,false) s'->K (.ret (.Bl [Ax (Jr 17 l) s' 0,.bool false])) st')
 (k1:∀l s' st',2<=l.length->AP s' 15 [41]=true->mu s'<=100000000->Rx st0 st' rows->Q (l,true) s'->K (.ret (.Bl [Ax (Al 17 l) s' 0,.bool true])) st')
 (kb:∀e n s' st',¬e.1=0->Rx st0 st' rows->E e s'->K (.ret (.Bl [Ax n s' e.1,.bool false])) st'):PC 186 [Am s,.int .i64 D,.bool true] st K:=
 tK.go ho hm hc h (λn s' st' hr hl U hc q=>by
  obtain ⟨l,b⟩:=n
  cases b with
  |false=>exact k l s' st' hl U hc q
  |true=>obtain ⟨_,h1,h2⟩:=fe hr rfl;exact k1 l s' st' h2 h1 U hc q) kb
theorem UB {ks m:List Nd} {K:List (List V)->Prop} (hm:ks.take h.toNat=m) (h0:0<=h) (h2:h<=ks.length) (k:K (Co m)):
 (0<=(0:Int)/\(0:Int)<=h/\h<=(Co ks).length)/\∀U,U=(((Co ks).take h.toNat).drop (0:Int).toNat)->K U:=
 Wp (Int.le_refl _) h0 h2 (by rw [hm];exact k)
theorem eX {k:Int} {own:Ay} (h:K (.ret (enc (Al k l))) st):PC 117 [.int .i64 k,.slice 6 (Co l) own] st K:=by
 rw [BV]
 exact QU h
attribute [local irreducible] Go.Aw.Ai
attribute [local irreducible] Go.Aw.E2
theorem ft {n m:Nat} {K:Nat->Prop} (U:0<=h) (h1:h<=(n:Int)) (e:h.toNat=m) (k:K m):((0:Int)=0/\0<=h/\h<=(n:Int))/\∀k,k=h.toNat->K k:=
 ⟨⟨rfl,U,h1⟩,λj hj=>by rw [hj,e];exact k⟩
def RS.row (o:Nd) (y:RS):V:=if y.tag then .Eg 6 y.b y.l.length y.cap else .slice 6 [Ap o] .full
def RS.k (y:RS):Int:=if y.tag then 5 else 4
def RS.J (st0:St) (rows:List (Ay×List Nd)) (exp:Rd Nd) (o:Nd) (Q:Nd->Af->Prop) (E:Er->Af->Prop) (y:RS):Prop:=match y.e with
 |none=>mu y.s<=100000000/\Rx st0 y.m rows/\(if y.tag then st0.box y.b=none/\Fh y.m y.b y.cap y.l/\y.l.length+4*mu y.s<=800000000/\Rd.wp (Qu exp 5 y.l y.n) y.s Q E else Rd.wp (Qu exp 4 [o] y.n) y.s Q E)
 |some e=>y.tag=true/\Rx st0 y.m rows/\E e y.s
def RS.mu (y:RS):Nat:=match y.e with
 |none=>Proofs.Z.mu y.s+1
 |some _=>0
theorem mG {exp:Rd Nd} (keep kb:List Nat) (hm:mu s<=100000000) (hc:Rx st0 st rows) (h:Rd.wp (Qu exp 4 [o] n) s Q E)
 (he:(env.EG [(0,.slice 6 [Ap o] .full),(13,.int .i64 4)] [(3,Dq n s 0)] keep kb).C3 env)
 (hb1:∀n s1 m,mu s1<=100000000->Rx st0 m rows->Rd.wp (Qu exp 4 [o] n) s1 Q E->ih (Bz (λenv' st'=>∃y:RS,y.J st0 rows exp o Q E/\y.mu<mu s1+1/\(env.EG [(0,y.row o),(13,.int .i64 y.k)] [(3,Dq y.n y.s (vj y.e))] keep kb).C3 env'/\St.le y.m st') Q0) (env.EG [(0,.slice 6 [Ap o] .full),(13,.int .i64 4)] [(3,Dq n s1 0)] keep kb) m)
 (hb2:∀l n s1 b cap m,mu s1<=100000000->Rx st0 m rows->st0.box b=none->Fh m b cap l->l.length+4*mu s1<=800000000->Rd.wp (Qu exp 5 l n) s1 Q E->ih (Bz (λenv' st'=>∃y:RS,y.J st0 rows exp o Q E/\y.mu<mu s1+1/\(env.EG [(0,y.row o),(13,.int .i64 y.k)] [(3,Dq y.n y.s (vj y.e))] keep kb).C3 env'/\St.le y.m st') Q0) (env.EG [(0,.Eg 6 b l.length cap),(13,.int .i64 5)] [(3,Dq n s1 0)] keep kb) m)
 (hb3:∀(l:List Nd) n s1 (e:Er) b cap m P,¬e.1=0->Rx st0 m rows->E e s1->ih (Bz P Q0) (env.EG [(0,.Eg 6 b l.length cap),(13,.int .i64 5)] [(3,Dq n s1 e.1)] keep kb) m):
 ∃(α:Type) (E:α->Env) (S:α->St) (J:α->Prop) (μ:α->Nat) (x0:α),J x0/\(E x0).C3 env/\St.le (S x0) st/\
  ∀x,J x->ih (Bz (λenv' st'=>∃y,J y/\μ y<μ x/\(E y).C3 env'/\St.le (S y) st') Q0) (E x) (S x):=
 ⟨RS,λy=>env.EG [(0,y.row o),(13,.int .i64 y.k)] [(3,Dq y.n y.s (vj y.e))] keep kb,λy=>y.m,λy=>y.J st0 rows exp o Q E,RS.mu,⟨false,[],n,s,none,4,0,0,st⟩,⟨hm,hc,h⟩,he,St.le_refl _,by
   rintro ⟨tag,l,n,s1,e,kd,b,cap,m⟩ j
   cases e with
   |some e=>
    obtain ⟨h0,h1,U⟩:=j
    dsimp only at h0
    subst h0
    exact hb3 l n s1 e b cap m _ e.2 h1 U
   |none=>
    obtain ⟨h0,h1,U⟩:=j
    cases tag with
    |false=>exact hb1 n s1 m h0 h1 U
    |true=>exact hb2 l n s1 b cap m h0 h1 U.1 U.2.1 U.2.2.1 U.2.2.2⟩
theorem YE {env':Env} {exp:Rd Nd} {U:List Nat} {B:Nat} {s2:Af} (hm:mu s2<=100000000) (hc:Rx st0 st rows) (hf:st0.box b=none) (hr:Fh st b cap (l++[n])) (hl:l.length+4*mu s2<=800000000) (h:Rd.wp (Qu exp 5 l n) s2 Q E) (hB:mu s2<B)
 (he:(env.EG [(0,.Eg 6 b l.length cap),(13,.int .i64 5)] [(3,Dq n s2 0)] keep U).C3 env') (hs:St.le st st'):
 ∃y:RS,y.J st0 rows exp o Q E/\y.mu<B+1/\(env.EG [(0,y.row o),(13,.int .i64 y.k)] [(3,Dq y.n y.s (vj y.e))] keep U).C3 env'/\St.le y.m st':=
 ⟨⟨true,l,n,s2,none,5,b,cap,st⟩,⟨hm,hc,hf,hr.pre,hl,h⟩,(by show mu s2+1<B+1;omega),he,hs⟩
theorem dr {env':Env} {exp:Rd Nd} {U:List Nat} {B:Nat} {s2:Af} {e:Er} (hc:Rx st0 st rows) (h:E e s2)
 (he:(env.EG [(0,.Eg 6 b l.length cap),(13,.int .i64 5)] [(3,Dq n s2 e.1)] keep U).C3 env') (hs:St.le st st'):
 ∃y:RS,y.J st0 rows exp o Q E/\y.mu<B+1/\(env.EG [(0,y.row o),(13,.int .i64 y.k)] [(3,Dq y.n y.s (vj y.e))] keep U).C3 env'/\St.le y.m st':=
 ⟨⟨true,l,n,s2,some e,5,b,cap,st⟩,⟨rfl,hc,h⟩,(by show 0<B+1;omega),he,hs⟩
theorem uF {exp:Rd Nd} (h:Rd.wp (Qu exp kd l n) s Q E):if AP s 15 [44]=true then Rd.wp AB s (λc s'=>Rd.wp exp s' (λn2 s2=>mu s2<mu s->Rd.wp (Qu exp 5 (l++[n]++[c]) n2) s2 Q E) E) E else Rd.wp (FN kd (l++[n]) [41]) s Q E:=by
 simp only [Qu,Rd.wp_seq,Rd.wp_loop,Ti,Rd.Ag,Rd.Ao,Rd.wp_ret,Rd.AO] at h
 split at h
 .rename_i hi
  rw [if_pos hi]
  refine Rd.wp_mono h (λc s1 _ h=>Rd.wp_mono h (λn2 s2 _ h U=>?_) λ_ _ _ h=>h) λ_ _ _ h=>h
  unfold Qu
  rw [Rd.wp_seq]
  exact Rd.Bh h U
 .rename_i hi
  rw [if_neg hi];exact h
theorem Ra {x y:Code} {Q:AG->Env->St->Prop} {st:St} (f:List (Nat×V)) (g:List (Nat×List V)) (keep U:List Nat) (hx:AW Tryz.prog x (Bz (λenv' st'=>(env.EG f g keep U).C3 env'/\St.le st st') Q) env st) (hy:AW Tryz.prog y Q (env.EG f g keep U) st):AW Tryz.prog (.seq x y) Q env st:=
 NC (α:=Unit) (λ_=>env.EG f g keep U) (λ_=>st) (λ_=>True) (λ_ _=>hy) (dg hx λe env st h=>by
  cases e with
  |normal=>exact ⟨(),trivial,h.1,h.2⟩
  |exit i=>exact h
  |goto i=>exact h
  |ret=>exact h
  |Ci v=>exact h)
theorem iP (hd:d<=1000000) (hL:Kg d L stm opd full):Ba 316 (λs=>[.slice 6 [Ap o] .full,Am s,.int .i64 ((d+1:Nat):Int)]) (V9 L o):=by
 refine ⟨λ{st0 s st rows K} hm hc h=>?_⟩
 simp only [V9,nN,nO,Rd.Ag,Rd.Ao] at h
 refine AQ Ac [] Tryz.func316 rfl IR rfl ?_
 refine Ah (Aj Ac ?_)
 repeat' ((conv=>whnf);(first|refine AV ?_|refine BU ?_ ?_|fail)<;>intros)
 refine Ah (Aj Ac ?_)
 repeat' ((conv=>whnf);(first|refine AV ?_|refine BU ?_ ?_|refine CJ ?_|refine El ?_|exact CV|fail)<;>intros)
 have hp15:∀x:List UInt8,AP s 15 x=true↔(Aa s).1.kind=15/\(Aa s).1.text=x:=λx=>by unfold AP;simp only [Bool.and_eq_true,beq_iff_eq]
 by_cases c1:AP s 15 [41]=true
 .rw [if_pos c1] at h
  obtain ⟨c2,c3⟩:=(hp15 _).1 c1
  refine Ah (Aj Ac ?_)
  repeat' ((conv=>whnf);(first|refine AV ?_|refine BU ?_ ?_|refine LP.go (by first|  exact SL.a) ?_ ?_|refine CJ ?_|refine El ?_|exact CV|fail)<;>intros)
 rw [if_neg c1] at h
 by_cases c4:AP s 15 [44]=true
 .rw [if_pos c4] at h
  obtain ⟨c2,c3⟩:=(hp15 _).1 c4
  refine Ah (Aj Ac ?_)
  repeat' ((conv=>whnf);(first|refine AV ?_|refine BU ?_ ?_|refine LP.go (by first|  exact SL.a) ?_ ?_|refine CJ ?_|refine El ?_|exact CV|fail)<;>intros)
 rw [if_neg c4] at h
 have c5:(Aa s).1.kind=15->¬(Aa s).1.text=[41]:=λe1 e2=>c1 ((hp15 _).2 ⟨e1,e2⟩)
 have c6:(Aa s).1.kind=15->¬(Aa s).1.text=[44]:=λe1 e2=>c4 ((hp15 _).2 ⟨e1,e2⟩)
 refine Ra [] [] [0,2,4,6,7] [0,1,2] (Aj Ac ?_) ?_
 .by_cases c7:(Aa s).1.kind=15
  .have c5:=c5 c7
   have c6:=c6 c7
   repeat' ((conv=>whnf);(first|refine AV ?_|refine BU ?_ ?_|refine CJ ?_|refine El ?_|exact CV|fail)<;>intros)
   all_goals exact ⟨Yl,St.le_refl _⟩
  .skip
   repeat' ((conv=>whnf);(first|refine AV ?_|refine BU ?_ ?_|refine CJ ?_|refine El ?_|exact CV|fail)<;>intros)
   all_goals exact ⟨Yl,St.le_refl _⟩
 clear c5 c6 c1 c4 hp15
 have htk:Rd.wp AB s (λ_ _=>True) (λ_ _=>True):=Rd.UQ (λ_ _ _=>trivial) (λ_ _ _=>trivial)
 by_cases c1:HD (Aa s).1=true/\AP (Aa s).2.1 15 [41]=true
 .obtain ⟨c1,c2⟩:=c1
  rw [if_pos c1,if_pos c2] at h
  simp only [Rd.wp_seq,Rd.wp_ret] at h
  refine Ah (Aj Ac ?_)
  repeat' ((conv=>whnf);first|(refine AV ?_;intros)|(refine BU ?_ ?_<;>intro _)|(refine Cn ‹_› h (Ns c1) (λs1 hz hl hm h=>?_);subst hz)|refine Is ‹_› f8 ‹_› hc h (λn s1 U hm hc h=>?_)|refine CJ ?_|(refine El ?_;intro own1 U hc)|exact CV|fail)
 replace h:if Gp (Aa s).1=true then (if AP s 5 [45]=true then Rd.wp (L.F1 o) s (λv s'=>∀st',Rx st0 st' rows->K (.ret (Ax v s' 0)) st') (λe s'=>∀n st',Rx st0 st' rows->K (.ret (Ax n s' e.1)) st') else Rd.wp (LJ L o) s (λv s'=>∀st',Rx st0 st' rows->K (.ret (Ax v s' 0)) st') (λe s'=>∀n st',Rx st0 st' rows->K (.ret (Ax n s' e.1)) st')) else Rd.wp (L.F1 o) s (λv s'=>∀st',Rx st0 st' rows->K (.ret (Ax v s' 0)) st') (λe s'=>∀n st',Rx st0 st' rows->K (.ret (Ax n s' e.1)) st'):=by
  by_cases d1:HD (Aa s).1=true
  .rw [if_pos d1,if_neg (λe=>c1 ⟨d1,e⟩)] at h;exact h
  .rw [if_neg d1] at h;exact h
 refine Ra [] [] [0,2,4,6,7] [0,1,2] (Aj Ac ?_) ?_
 .by_cases d1:HD (Aa s).1=true
  .have d2:AP (Aa s).2.1 15 [41]=false:=Bool.eq_false_iff.2 λe=>c1 ⟨d1,e⟩
   repeat' ((conv=>whnf);first|(refine AV ?_;intros)|(refine BU ?_ ?_<;>intro _)|(refine Cn ‹_› htk (Ns d1) (λs1 hz hl hm h=>?_);subst hz)|refine CJ ?_|(refine El ?_;intro own1 U hc)|exact CV|fail)
   all_goals exact ⟨Yl,St.le_refl _⟩
  .have d2:HD (Aa s).1=false:=Bool.eq_false_iff.2 d1
   repeat' ((conv=>whnf);(first|refine AV ?_|refine BU ?_ ?_|refine CJ ?_|refine El ?_|exact CV|fail)<;>intros)
   all_goals exact ⟨Yl,St.le_refl _⟩
 clear c1 htk
 by_cases c1:Gp (Aa s).1=true/\¬AP s 5 [45]=true
 .obtain ⟨c1,c2⟩:=c1
  rw [if_pos c1,if_neg c2] at h
  have hp5:(Aa s).1.kind=5->¬(Aa s).1.text=[45]:=λe1 e2=>c2 (by unfold AP;rw [e1,e2];rfl)
  refine Ah (Aj Ac ?_)
  by_cases c7:(Aa s).1.kind=5
  .have hp5:=hp5 c7
   repeat' ((conv=>whnf);(first|refine AV ?_|refine BU ?_ ?_|refine LP.go (by first|  exact (P2 hd hL).a) ?_ ?_|refine CJ ?_|refine El ?_|exact CV|fail)<;>intros)
  .skip
   repeat' ((conv=>whnf);(first|refine AV ?_|refine BU ?_ ?_|refine LP.go (by first|  exact (P2 hd hL).a) ?_ ?_|refine CJ ?_|refine El ?_|exact CV|fail)<;>intros)
 replace h:Rd.wp (L.F1 o) s (λv s'=>∀st',Rx st0 st' rows->K (.ret (Ax v s' 0)) st') (λe s'=>∀n st',Rx st0 st' rows->K (.ret (Ax n s' e.1)) st'):=by
  by_cases d1:Gp (Aa s).1=true
  .rw [if_pos d1,if_pos (Classical.byContradiction λe=>c1 ⟨d1,e⟩)] at h;exact h
  .rw [if_neg d1] at h;exact h
 refine Ra [] [] [0,2,4,6,7] [0,1,2] (Aj Ac ?_) ?_
 .by_cases d1:Gp (Aa s).1=true
  .have d2:AP s 5 [45]=true:=Classical.byContradiction λe=>c1 ⟨d1,e⟩
   obtain ⟨d3,d4⟩:(Aa s).1.kind=5/\(Aa s).1.text=[45]:=by unfold AP at d2;simpa using d2
   have d5:¬¬(Aa s).1.text=[45]:=λe=>e d4
   repeat' ((conv=>whnf);(first|refine AV ?_|refine BU ?_ ?_|refine CJ ?_|refine El ?_|exact CV|fail)<;>intros)
   all_goals exact ⟨Yl,St.le_refl _⟩
  .have d2:Gp (Aa s).1=false:=Bool.eq_false_iff.2 d1
   repeat' ((conv=>whnf);(first|refine AV ?_|refine BU ?_ ?_|refine CJ ?_|refine El ?_|exact CV|fail)<;>intros)
   all_goals exact ⟨Yl,St.le_refl _⟩
 clear c1
 by_cases hz:d=0
 .have e:=hL.zero hz
  subst e
  have hlt:((d+1:Nat):Int)<2:=H1
  simp only [bL,Rd.BD] at h
  refine Ah (Aj Ac ?_)
  repeat' ((conv=>whnf);(first|refine AV ?_|refine BU ?_ ?_|refine CJ ?_|refine El ?_|exact CV|fail)<;>intros)
 have hlt:¬((d+1:Nat):Int)<2:=H1
 rw [hL.F1 hz,qs,Rd.wp_seq] at h
 refine Ra [] [] [0,2,4,6,7] [0,1,2] (Aj Ac ?_) ?_
 .skip
  repeat' ((conv=>whnf);(first|refine AV ?_|refine BU ?_ ?_|refine CJ ?_|refine El ?_|exact CV|fail)<;>intros)
  all_goals exact ⟨Yl,St.le_refl _⟩
 refine Ah (Aj Ac ?_)
 repeat' ((conv=>whnf);first|refine BI hd ?_|(refine AV ?_;intros)|(refine BU ?_ ?_<;>intro _)|refine wI (hL.row hz) hm hc h (λl s1 U hl hm hc h=>?_) (λl s1 U hl2 hi hm hc h=>?_) (λe n s1 U he hc h=>?_)|refine CJ ?_|(refine El ?_;intro own1 U hc)|exact CV|fail)
 .replace h:Rd.wp (Jt full (Jr 17 l)) s1 (λe s'=>Rd.wp (Qu L.exp 4 [o] e) s' (λv s'=>∀st',Rx st0 st' rows->K (.ret (Ax v s' 0)) st') (λe s'=>∀n st',Rx st0 st' rows->K (.ret (Ax n s' e.1)) st')) (λe s'=>∀n st',Rx st0 st' rows->K (.ret (Ax n s' e.1)) st'):=by rw [<-Rd.wp_seq];exact h
  refine Ah (Aj Ac ?_)
  repeat' ((conv=>whnf);(first|refine AV ?_|refine BU ?_ ?_|refine CJ ?_|refine El ?_|exact CV|fail)<;>intros)
  refine Ah (Aj Ac ?_)
  repeat' ((conv=>whnf);(first|refine AV ?_|refine BU ?_ ?_|refine CJ ?_|refine El ?_|exact CV|fail)<;>intros)
  refine Ah (Aj Ac ?_)
  repeat' ((conv=>whnf);first|refine BI hd ?_|(refine AV ?_;intros)|(refine BU ?_ ?_<;>intro _)|refine Ba.go (Uy (hL.xB hz)) ‹_› hc h (λn s1 U hr hl hm hc h=>?_) (λe n s1 U he hc h=>?_)|refine CJ ?_|(refine El ?_;intro own1 U hc)|exact CV|fail)
  .refine Ah (Aj Ac ?_)
   repeat' ((conv=>whnf);(first|refine AV ?_|refine BU ?_ ?_|fail)<;>intros)
   refine Aj Ac ?_
   repeat' ((conv=>whnf);(first|refine AV ?_|refine BU ?_ ?_|fail)<;>intros)
   refine mG [2,6,9] [1] hm hc h Yl (λn s1 m hm hc h=>?_) (λl n s1 b cap m hm hc hf hr hlen h=>?_) (λl n s1 e b cap m P he hc h=>?_)
   .have h:=uF h
    by_cases hi:AP s1 15 [44]=true
    .rw [if_pos hi] at h
     repeat' ((conv=>whnf);first|refine BI hd ?_|(refine AV ?_;intros)|(refine BU ?_ ?_<;>intro _)|refine ff hc (λb cap U hf hc hr=>?_)|refine eW (l:=[o]++[n]) hL.exp hi (Nat.le_of_ble_eq_true rfl) ‹_› hc hf hr h (λc n2 b cap s2 U hlt hm hf hc hr h=>?_) (λe l n b cap s2 U he hf hc hr h=>?_)|refine (λ(_:_<4611686018427387904)=>?_)|refine ft (m:=([o]++[n]++[c]).length) f8 f8 f8 ?_|exact YE ‹_› hc hf hr f8 (h hlt) hlt Yl (St.le_refl _)|exact dr hc h Yl (St.le_refl _)|refine CJ ?_|(refine El ?_;intro own1 U hc)|exact CV|fail)
    .rw [if_neg hi] at h
     have hi:AP s1 15 [44]=false:=Bool.eq_false_iff.2 hi
     repeat' ((conv=>whnf);first|(refine AV ?_;intros)|(refine BU ?_ ?_<;>intro _)|refine ff hc (λb cap U hf hc hr=>?_)|refine Ur (l:=[o]++[n]) (Nat.le_of_ble_eq_true rfl) ‹_› hc hf hr (Rd.wp_mono h (λv s' _ q st' c=>?_) (λe s' _ q n st' c=>?_))|exact Ae c q rfl|exact Ae c (q _) rfl|refine CJ ?_|(refine El ?_;intro own1 U hc)|exact CV|fail)
   .have h:=uF h
    by_cases hi:AP s1 15 [44]=true
    .rw [if_pos hi] at h
     repeat' ((conv=>whnf);first|refine BI hd ?_|(refine AV ?_;intros)|(refine BU ?_ ?_<;>intro _)|refine Ou (x:=n) hc hf hr rfl H1 (λb cap U hf hc hr=>?_)|refine eW (l:=l++[n]) hL.exp hi f8 ‹_› hc hf hr h (λc n2 b cap s2 U hlt hm hf hc hr h=>?_) (λe l n b cap s2 U he hf hc hr h=>?_)|refine (λ(_:_<4611686018427387904)=>?_)|refine ft (m:=(l++[n]++[c]).length) f8 f8 f8 ?_|exact YE ‹_› hc hf hr f8 (h hlt) hlt Yl (St.le_refl _)|exact dr hc h Yl (St.le_refl _)|refine CJ ?_|(refine El ?_;intro own1 U hc)|exact CV|fail)
    .rw [if_neg hi] at h
     have hi:AP s1 15 [44]=false:=Bool.eq_false_iff.2 hi
     repeat' ((conv=>whnf);first|(refine AV ?_;intros)|(refine BU ?_ ?_<;>intro _)|refine Ou (x:=n) hc hf hr rfl H1 (λb cap U hf hc hr=>?_)|refine Ur (l:=l++[n]) f8 ‹_› hc hf hr (Rd.wp_mono h (λv s' _ q st' c=>?_) (λe s' _ q n st' c=>?_))|exact Ae c q rfl|exact Ae c (q _) rfl|refine CJ ?_|(refine El ?_;intro own1 U hc)|exact CV|fail)
   .skip
    repeat' ((conv=>whnf);(first|refine AV ?_|refine BU ?_ ?_|refine CJ ?_|refine El ?_|exact CV|fail)<;>intros)
  .refine Ah (Aj Ac ?_)
   repeat' ((conv=>whnf);first|(refine AV ?_;intros)|(refine BU ?_ ?_<;>intro _)|fail)
   refine Aj Ac ?_
   repeat' ((conv=>whnf);first|(refine AV ?_;intros)|(refine BU ?_ ?_<;>intro _)|fail)
   refine Pa [] [(3,Dq n s1 e.1)] [0,2,6,9,13] [1] Yl (λP=>?_)
   repeat' ((conv=>whnf);first|(refine AV ?_;intros)|(refine BU ?_ ?_<;>intro _)|refine CJ ?_|(refine El ?_;intro own1 U hc)|exact CV|fail)
 .replace h:Rd.wp (.seq AB λc=>.ret (Al 9 [o,Jr 17 (l.take (l.length - 1)),l.getLastD BC,c])) s1 (λv s'=>∀st',Rx st0 st' rows->K (.ret (Ax v s' 0)) st') (λe s'=>∀n st',Rx st0 st' rows->K (.ret (Ax n s' e.1)) st'):=h
  simp only [Rd.wp_seq,Rd.wp_ret] at h
  obtain ⟨g1,g2⟩:=UF hl2
  generalize hm':l.take (l.length - 1)=m at h g1 g2
  generalize hb':l.getLastD BC=b at h g1
  have hlm:l.length=m.length+1:=by rw [<-g1,List.length_append,List.length_singleton]
  have htk:(Al 17 l).kids.take ((((Al 17 l).kids.length:Nat):Int) - 1).toNat=m:=by
   show l.take (((l.length:Nat):Int) - 1).toNat=m
   rw [<-hm'];congr 1;omega
  have hlast:(Al 17 l).kids[((((Al 17 l).kids.length:Nat):Int) - 1).toNat]? =some b:=by
   show l[(((l.length:Nat):Int) - 1).toNat]? =some b
   rw [show (((l.length:Nat):Int) - 1).toNat=m.length by omega,<-g1]
   simp
  have hkl:(Al 17 l).kids.length=l.length:=rfl
  refine Ah (Aj Ac ?_)
  repeat' ((conv=>whnf);first|(refine AV ?_;intros)|(refine BU ?_ ?_<;>intro _)|refine CJ ?_|(refine El ?_;intro own1 U hc)|exact CV|fail)
  refine Ah (Aj Ac ?_)
  by_cases h2:m.length=1
  .obtain ⟨a,rfl⟩:∃a,m=[a]:=List.length_eq_one_iff.1 h2
   have hfirst:(Al 17 l).kids[(0:Int).toNat]? =some a:=by
    show l[0]? =some a
    rw [<-g1];rfl
   repeat' ((conv=>whnf);first|refine UB htk H1 H1 ?_|(refine AV ?_;intros)|(refine BU ?_ ?_<;>intro _)|refine eX ?_|refine Is hi f8 ‹_› hc h (λn s1 U hm hc h=>?_)|refine CJ ?_|(refine El ?_;intro own1 U hc)|exact CV|fail)
  .have ho:Jr 17 m=Al 17 m:=if_neg h2
   rw [ho] at h
   repeat' ((conv=>whnf);first|refine UB htk H1 H1 ?_|(refine AV ?_;intros)|(refine BU ?_ ?_<;>intro _)|refine eX ?_|refine Is hi f8 ‹_› hc h (λn s1 U hm hc h=>?_)|refine CJ ?_|(refine El ?_;intro own1 U hc)|exact CV|fail)
 .refine Ah (Aj Ac ?_)
  repeat' ((conv=>whnf);first|(refine AV ?_;intros)|(refine BU ?_ ?_<;>intro _)|refine CJ ?_|(refine El ?_;intro own1 U hc)|exact CV|fail)
end
structure K5 (f:FuncId) (mk:Af->List V) (A:Rd Nd):Prop where
 ap:∀{st0:St} {s:Af} {st:St} {rows:List (Ay×List Nd)} {K:AD->St->Prop},mu s<=100000000->Rx st0 st rows->
  Rd.wp A s (λv s'=>∀st',Rx st0 st' rows->K (.ret (Ax v s' 0)) st') (λe s'=>∀st',Rx st0 st' rows->K (.ret (Ax BC s' e.1)) st')->PC f (mk s) st K
theorem K5.c {f:FuncId} {mk:Af->List V} {A:Rd Nd} (h:K5 f mk A):Ba f mk A:=
 ⟨λ{st0 s st rows K} U hc hw=>h.ap U hc (Rd.wp_mono hw (λ_ _ _ q=>q) (λe s' _ q st' c=>q BC st' c))⟩
theorem rH {t b:Nd}:Ii L t b=.seq (Gu L.exp 9 yl ([t]++[b])) λl=>.ret (Al 24 l):=by
 simp only [Ii,Gu,Rd.seq_assoc,Rd.On,List.cons_append,List.nil_append]
section
variable {st0 st:St} {s:Af} {rows:List (Ay×List Nd)} {K:AD->St->Prop} {E:Er->Af->Prop} {d:Nat} {L:DL} {atom stm opd full exp:Rd Nd} {o:Nd}
structure pW (D:Int) (d:Nat):Prop where
 le:d+1<=100
 ge:¬D<1
 Fk:∀{st:St} {K:AD->St->Prop},K (.ret (.int .i64 ((d+1:Nat):Int))) st->PC 30 [.int .i64 D] st K
theorem Yi (U:d+1<=100):pW ((d+1:Nat):Int) d:=⟨U,H1,λh=>FQ H1 (by rw [if_neg H1];exact h)⟩
theorem xQ (U:100<D):pW D 99:=⟨H1,H1,λh=>FQ H1 (by rw [if_pos U];exact h)⟩
theorem sr {t b:Nd} {own:Ay} (he:Ba 258 (λs=>[Am s,.int .i64 D]) L.exp) (hL:Ms L) (hz:∃s0,mu s0<=100000000/\Bt ([t]++[b]) s0 s) (hm:mu s<=100000000) (hc:Rx st0 st ((own,[t]++[b])::rows)) (h:Rd.wp (Ii L t b) s Q E)
 (k:∀l' n U s' st',(Al 24 l').size<=1000000000->mu s'<=100000000->Rx st0 st' ((U,l')::rows)->Q (Al 24 l') s'->K (.ret (.Bl [.slice 6 (l'.map Ap) U,Ax n s' 0])) st')
 (kb:∀e l' n U s' st',¬e.1=0->Rx st0 st' ((U,l')::rows)->E e s'->K (.ret (.Bl [.slice 6 (l'.map Ap) U,Ax n s' e.1])) st'):PC 191 [.slice 6 (([t]++[b]).map Ap) own,Am s,.int .i64 9,.str yl,.int .i64 D] st K:=by
 obtain ⟨s0,hm0,hz⟩:=hz
 have hdv:Rd.wp (Ii L t b) s (λn s'=>Bt [n] s0 s') Gc:=RP hL hz λn s3 g3=>g3
 rw [rH] at h hdv
 simp only [Rd.wp_seq,Rd.wp_ret] at h hdv
 refine aw.go (FF IR he) (Nat.le_of_ble_eq_true rfl) hm hc h (λl' n U s' st' hr hl hm' hc' q=>k l' n U s' st' ?_ hm' hc' q) kb
 unfold Rd.wp at hdv
 rw [hr] at hdv
 have:(Al 24 l').size+4*mu s'<=4*mu s0:=hdv.uC
 omega
attribute [local irreducible] Go.Aw.Ai
theorem eU (hD:pW D d) (ho:Ba 241 (λs=>[Am s,.int .i64 ((d+1:Nat):Int)]) opd) (hf:Ba 108 (λs=>[Am s,.int .i64 ((d+1:Nat):Int)]) full):K5 258 (λs=>[Am s,.int .i64 D]) (aY opd full):=by
 obtain ⟨hd,hge,U⟩:=hD
 refine ⟨λ{st0 s st rows K} hm hc h=>?_⟩
 simp only [aY,Rd.wp_seq] at h
 refine pB Tryz.func258 ?_
 repeat' ((conv=>whnf);(first|refine AV ?_|refine U ?_|refine LP.go (by first|  exact (QV ho).a|exact (Uy hf).a) ?_ ?_|refine cD ‹_› ?_|refine CJ ?_|exact CV|fail)<;>intros)
theorem Zg (hD:pW D d) (hL:Kg d L stm opd full) (hV:Ms L) (he:Ba 258 (λs=>[Am s,.int .i64 ((d+1:Nat):Int)]) exp) (hE:Dv exp):K5 259 (λs=>[Am s,.int .i64 D]) (Ta L exp):=by
 obtain ⟨hd,hge,hlim⟩:=hD
 refine ⟨λ{st0 s st rows K} hm hc h=>?_⟩
 simp only [Ta,TP,Rd.Ag,Rd.Ao,Rd.wp_seq,Rd.wp_ret,Rd.BD] at h
 refine pB Tryz.func259 ?_
 by_cases hi:AP s 9 Xf=true
 .rw [if_pos hi] at h
  have ht:Bt [AJ (Aa s).1] s (Aa s).2.1:=.is hi IR IR
  have hm0:=hm
  repeat' ((conv=>whnf);first|refine BI H1 ?_|(refine AV ?_;intros)|refine hlim ?_|refine Ba.go hL.decls ‹_› hc h (λn s1 U hr hl hm hc h=>?_) (λe n s1 U he hc h=>?_)|refine Rx.BE (l:=[_]) (hc.push [_]) (Nat.le_of_ble_eq_true rfl) (λown1 U hc=>?_)|refine sr hL.exp hV ⟨_,hm0,(hz ▸ ht).snoc (hV.decls.at hr)⟩ ‹_› hc h (λl' n own' s1 U hz hm hc h=>?_) (λe l' n own' s1 U he hc h=>?_)|refine OG hz h (λe h=>?_) (λe h=>?_)|refine LF (l:=[_]) (own:=.full) IR he ‹_› (Nat.le_of_ble_eq_true rfl) ‹_› (hc.drop.push [_]) h (λc n n' own1 s1 U hl hm hc h=>?_) (λe l' n own' s1 U he hc h=>?_)|refine CJ ?_|(refine IE ?_ ?_<;>intro e h)|(refine Jx ?_;intro s1 hz hl hm h)|exact CV|fail)
 .rw [if_neg hi] at h
  have hi:AP s 9 Xf=false:=Bool.eq_false_iff.2 hi
  have hm0:=hm
  repeat' ((conv=>whnf);first|refine BI H1 ?_|(refine AV ?_;intros)|refine hlim ?_|refine Ba.go he ‹_› hc h (λn s1 U hr hl hm hc h=>?_) (λe n s1 U he hc h=>?_)|refine OG (hE.yL hr hm0) h (λe h=>?_) (λe h=>?_)|refine LF (l:=[_]) (own:=.full) IR he ‹_› (Nat.le_of_ble_eq_true rfl) ‹_› (hc.push [_]) h (λc n n' own1 s1 U hl hm hc h=>?_) (λe l' n own' s1 U he hc h=>?_)|refine CJ ?_|(refine IE ?_ ?_<;>intro e h)|(refine Jx ?_;intro s1 hz hl hm h)|exact CV|fail)
end
section
variable {st0 st:St} {s:Af} {rows:List (Ay×List Nd)} {K:AD->St->Prop} {E:Er->Af->Prop} {d:Nat} {L:DL} {atom stm opd full exp stmt:Rd Nd} {o:Nd}
theorem cA {Q:List Nd->Af->Prop} (hs:Ba 259 (λs=>[Am s,.int .i64 D]) stmt) (hm:mu s<=100000000) (hc:Rx st0 st rows) (h:Rd.wp (Es stmt []) s Q E)
 (k:∀l' n U s' st',l'.length<=400000002->mu s'<mu s->mu s'<=100000000->Rx st0 st' ((U,l')::rows)->Q l' s'->K (.ret (.Bl [.slice 6 (l'.map Ap) U,Ax n s' 0])) st')
 (kb:∀e l' n U s' st',¬e.1=0->Rx st0 st' ((U,l')::rows)->E e s'->K (.ret (.Bl [.slice 6 (l'.map Ap) U,Ax n s' e.1])) st'):PC 192 [.slice 6 [] .full,Am s,.str [124],.int .i64 D] st K:=
 aw.go (l:=[]) (own:=.full) (Uv hs) (Nat.le_of_ble_eq_true rfl) hm (hc.push _) h (λl' n U s' st' hr hl hm' hc' q=>k l' n U s' st' (by have:=Me hr;simp only [List.length_nil] at *;omega) (PQ _ _ _ hr) hm' hc' q) kb
def Nz (L:DL) (l:List Nd):Rd Nd:=.look λs=>if AP s 9 Xg=true then .seq AB λw=>.seq L.decls λb=>.ret (Al 29 (l++[Al 31 ([w]++[b])])) else .ret (Al 29 l)
theorem wz (hl:l=[]/\AP s 10 [124]=true\/l≠[]/\(l.headD BC).kind=30) (h:Rd.wp (Pm L exp stmt m l) s Q E):
 if AP s 10 [124]=true then Rd.wp (Es stmt []) s (λg s1=>Rd.wp (Gu exp 10 m g) s1 (λg s2=>mu s2<mu s->Rd.wp (Pm L exp stmt m (l++[Al 30 g])) s2 Q E) E) E else Rd.wp (Nz L l) s Q E:=by
 have hg:Rd.wp (Nc exp stmt m l) s (Rd.again (Ib exp stmt m) s (λl s1=>Rd.wp (Nz L l) s1 Q E) E) E->Rd.wp (Es stmt []) s (λg s1=>Rd.wp (Gu exp 10 m g) s1 (λg s2=>mu s2<mu s->Rd.wp (Pm L exp stmt m (l++[Al 30 g])) s2 Q E) E) E:=λh=>by
  simp only [Nc,Rd.wp_seq,Rd.wp_ret] at h
  simp only [Gu,Rd.wp_seq,Rd.wp_ret]
  refine Rd.wp_mono h (λg s1 _ h=>Rd.wp_mono h (λq s2 _ h=>Rd.wp_mono h (λe s3 _ h U=>?_) λ_ _ _ h=>h) λ_ _ _ h=>h) λ_ _ _ h=>h
  have:=Rd.Bh h U
  unfold Pm
  rw [Rd.wp_seq]
  exact this
 unfold Pm at h
 rw [Rd.wp_seq,Rd.wp_loop] at h
 replace h:Rd.wp (Ib exp stmt m l) s (Rd.again (Ib exp stmt m) s (λl s1=>Rd.wp (Nz L l) s1 Q E) E) E:=h
 unfold Ib at h
 rcases hl with ⟨rfl,hi⟩|⟨hn,hk⟩
 .rw [if_pos (show ((([]:List Nd).length:Int)==0)=true from rfl)] at h
  rw [if_pos hi]
  exact hg h
 .rw [if_neg (by
   have:((l.length:Int)==0)=false:=beq_eq_false_iff_ne.2 λe=>hn (List.length_eq_zero_iff.1 H1)
   rw [this];decide),if_pos (show ((l.headD BC).kind==30)=true by rw [hk];rfl),Rd.Ag,Rd.Ao,Rd.wp_ret,Rd.AO] at h
  split
  .rename_i hi;rw [if_pos hi] at h;exact hg h
  .rename_i hi;rw [if_neg hi] at h;exact h
theorem wA {a e:Nd} (U:a.kind≠30) (h:Rd.wp (Pm L exp stmt m [a,e]) s Q E):Rd.wp (Nz L [a,e]) s Q E:=by
 unfold Pm at h
 rw [Rd.wp_seq,Rd.wp_loop] at h
 replace h:Rd.wp (Ib exp stmt m [a,e]) s (Rd.again (Ib exp stmt m) s (λl s1=>Rd.wp (Nz L l) s1 Q E) E) E:=h
 unfold Ib at h
 rw [if_neg (by show ¬((2:Int)==0)=true;decide),if_neg (by show ¬(a.kind==30)=true;rw [beq_iff_eq];exact U),Rd.wp_ret,Rd.AO] at h
 exact h
def kU (n:Nd) (w:Ay) (s:Af):List V:=[.int .i64 n.kind,.int .i64 n.form,.str n.text,.int .i64 n.line,.int .i64 n.Da,.slice 6 (Co n.kids) w,.slice 4 (Bb s.AR) .any,.int .i64 s.pos,.slice 1 (ints s.Cf) .any,.int .i64 s.wait,.int .i64 0]
theorem jh (h:Rd.wp AB s Q E):Rd.wp AB s (λc s'=>c.kind=1/\Q c s') E:=Rd.wp_mono h (λv s' U q=>⟨(by
 by_cases e:(Aa s).2.2=0
 .rw [C8 e] at U;cases U;rfl
 .rw [J8 e] at U;cases U),q⟩) λ_ _ _ h=>h
theorem ya {g:List Nd} {P:Prop} (h:l=[]/\P\/l≠[]/\(l.headD BC).kind=30):l++[Al 30 g]≠[]/\((l++[Al 30 g]).headD BC).kind=30:=by
 refine ⟨Pi,?_⟩
 cases l with
 |nil=>rfl
 |cons a r=>
  rcases h with h|h
  .cases h.1
  .exact h.2
theorem xm {x y:Code} {Q:AG->Env->St->Prop} {st:St} {α:Type} (f:α->List (Nat×V)) (g:α->List (Nat×List V)) (keep U:List Nat) (S:α->St) (J:α->Prop) (hx:AW Tryz.prog x (Bz (λenv' st'=>∃p,J p/\(env.EG (f p) (g p) keep U).C3 env'/\St.le (S p) st') Q) env st)
 (hy:∀p,J p->AW Tryz.prog y Q (env.EG (f p) (g p) keep U) (S p)):AW Tryz.prog (.seq x y) Q env st:=NC (λp=>env.EG (f p) (g p) keep U) S J hy hx
theorem rK {Q:β->Af->Prop} (T:σ->Rd β) (P:σ->Af->Prop) {x0:σ} (hp:P x0 s)
 (f:σ->Af->Ay->List (Nat×V)) (g:σ->Af->Ay->List (Nat×List V)) (keep kb:List Nat) (rw:σ->Ay->List (Ay×List Nd)) (wt:σ->Nat) (U:Ay) (hm:mu s<=100000000) (hc:Rx st0 st (rw x0 U)) (h:Rd.wp (T x0) s Q E) (hl:wt x0+4*mu s<=500000000)
 (he:(env.EG (f x0 s U) (g x0 s U) keep kb).C3 env)
 (hb:∀x s1 st1 own1,P x s1->mu s1<=100000000->Rx st0 st1 (rw x own1)->Rd.wp (T x) s1 Q E->wt x+4*mu s1<=500000000->
   ih (Bz (λenv' st'=>∃y:LS σ,(P y.x y.s/\mu y.s<=100000000/\Rx st0 y.m (rw y.x y.o)/\Rd.wp (T y.x) y.s Q E/\wt y.x+4*mu y.s<=500000000)/\mu y.s<mu s1/\(env.EG (f y.x y.s y.o) (g y.x y.s y.o) keep kb).C3 env'/\St.le y.m st') Q0)
    (env.EG (f x s1 own1) (g x s1 own1) keep kb) st1):
 ∃(α:Type) (E:α->Env) (S:α->St) (J:α->Prop) (μ:α->Nat) (x0:α),J x0/\(E x0).C3 env/\St.le (S x0) st/\
  ∀x,J x->ih (Bz (λenv' st'=>∃y,J y/\μ y<μ x/\(E y).C3 env'/\St.le (S y) st') Q0) (E x) (S x):=
 ⟨LS σ,λy=>env.EG (f y.x y.s y.o) (g y.x y.s y.o) keep kb,λy=>y.m,
   λy=>P y.x y.s/\mu y.s<=100000000/\Rx st0 y.m (rw y.x y.o)/\Rd.wp (T y.x) y.s Q E/\wt y.x+4*mu y.s<=500000000,λy=>mu y.s,⟨x0,s,st,U⟩,⟨hp,hm,hc,h,hl⟩,he,St.le_refl _,
   λy ⟨j0,j1,j3,j4,j5⟩=>hb y.x y.s y.m y.o j0 j1 j3 j4 j5⟩
attribute [local irreducible] Go.Aw.Ai
theorem fj (hd:d+1<=100) (hL:Kg d L stm opd full) (he:Ba 258 (λs=>[Am s,.int .i64 ((d+1:Nat):Int)]) exp) (hs:Ba 259 (λs=>[Am s,.int .i64 ((d+1:Nat):Int)]) stmt):Ba 116 (λs=>[Am s,.str m,.int .i64 ((d+1:Nat):Int)]) (Y6 L exp stmt m):=by
 refine ⟨λ{st0 s st rows K} hm hc h=>?_⟩
 simp only [Y6,Rd.Ag,Rd.Ao,Rd.wp_seq] at h
 refine AQ Ac [] Tryz.func116 rfl IR rfl ?_
 refine Ah (Aj Ac ?_)
 repeat' ((conv=>whnf);first|(refine AV ?_;intros)|fail)
 refine Ah (Aj Ac ?_)
 repeat' ((conv=>whnf);first|(refine AV ?_;intros)|fail)
 refine Ah (Aj Ac ?_)
 repeat' ((conv=>whnf);first|(refine AV ?_;intros)|fail)
 refine xm (α:=LS (List Nd×Nd×Ay)) (λp=>[(7,.slice 6 (p.x.1.map Ap) p.o)]) (λp=>[(2,kU p.x.2.1 p.x.2.2 p.s)]) [1,2,6,8] [1] (λp=>p.m) (λp=>mu p.s<=100000000/\Rx st0 p.m ((p.o,p.x.1)::rows)/\p.x.1.length+4*mu p.s<=500000000/\Rd.wp (Nz L p.x.1) p.s (λv s'=>∀st',Rx st0 st' rows->K (.ret (Ax v s' 0)) st') (λe s'=>∀n st',Rx st0 st' rows->K (.ret (Ax n s' e.1)) st')) (Aj Ac ?_) ?_
 .by_cases hi:AP s 10 m=true
  .rw [if_pos hi] at h
   have h:=jh h
   repeat' ((conv=>whnf);first|refine BI H1 ?_|(refine AV ?_;intros)|refine LF (l:=[]) (own:=.full) IR he ‹_› (Nat.le_of_ble_eq_true rfl) ‹_› (hc.push []) (Rd.wp_mono h (λc s' _ h=>Rd.wp_mono h.2 (λn s2 _ q=>(⟨h.1,q⟩:c.kind=1/\_)) (λ_ _ _ h=>h)) (λ_ _ _ h=>h)) (λc n n' U s1 st1 hl hm hc h=>?_) (λe l' n own' s1 st1 he hc h=>?_)|exact ⟨⟨(_,_,.any),s1,st1,U⟩,⟨‹_›,hc,f8,wA (by rw [h.1]<;>decide) h.2⟩,Yl,St.le_refl _⟩|refine CJ ?_|(refine IE ?_ ?_<;>intro e h)|(refine Jx ?_;intro s1 hz hl hm h)|(refine Rh ?_;intro e he h)|(refine El ?_;intro U st1 hc)|exact CV|fail)
  .rw [if_neg hi] at h
   have hi:AP s 10 m=false:=Bool.eq_false_iff.2 hi
   by_cases hb:AP s 10 [124]=true
   .rw [if_pos hb] at h
    repeat' ((conv=>whnf);first|(refine AV ?_;intros)|refine CJ ?_|(refine IE ?_ ?_<;>intro e h)|(refine Jx ?_;intro s1 hz hl hm h)|(refine Rh ?_;intro e he h)|(refine El ?_;intro U st1 hc)|exact CV|fail)
    refine rK (λp=>Pm L exp stmt m p.1) (λp s=>p.1=[]/\AP s 10 [124]=true\/p.1≠[]/\(p.1.headD BC).kind=30) (x0:=([],BC,.full)) (.inl ⟨rfl,hb⟩) (λp s own=>[(7,.slice 6 (p.1.map Ap) own)]) (λp s own=>[(2,kU p.2.1 p.2.2 s)]) [1,2,6,8] [1] (λp own=>(own,p.1)::rows) (λp=>p.1.length) .full hm (hc.push []) h li Yl ?_
    rintro ⟨l,n,w⟩ s1 st1 U hp hm hc h hl
    dsimp only at hp hc h hl
    have h:=wz hp h
    by_cases hb2:AP s1 10 [124]=true
    .rw [if_pos hb2] at h
     repeat' ((conv=>whnf);first|(refine AV ?_;intros)|refine cA hs ‹_› hc h (λl' n own' s1 st1 hl2 hlt hm hc h=>?_) (λe l' n own' s1 st1 he hc h=>?_)|refine aw.go (FF IR he) H1 ‹_› hc h (λl' n own' s1 st1 hr hl hm hc h=>?_) (λe l' n own' s1 st1 he hc h=>?_)|refine Rx.BE hc.drop la (λU st1 hc=>?_)|exact Ae hc.drop.drop (h _) rfl|exact ⟨⟨(_,_,.any),s1,st1,U⟩,⟨.inr (ya hp),‹_›,hc,h H1,f8⟩,GE,Yl,St.le_refl _⟩|refine CJ ?_|(refine IE ?_ ?_<;>intro e h)|(refine Jx ?_;intro s1 hz hl hm h)|(refine Rh ?_;intro e he h)|(refine El ?_;intro U st1 hc)|exact CV|fail)
    .rw [if_neg hb2] at h
     have hb2:AP s1 10 [124]=false:=Bool.eq_false_iff.2 hb2
     repeat' ((conv=>whnf);first|(refine AV ?_;intros)|exact ⟨⟨(_,_,_),s1,st1,U⟩,⟨hm,hc,hl,h⟩,Yl,St.le_refl _⟩|refine CJ ?_|(refine IE ?_ ?_<;>intro e h)|(refine Jx ?_;intro s1 hz hl hm h)|(refine Rh ?_;intro e he h)|(refine El ?_;intro U st1 hc)|exact CV|fail)
   .rw [if_neg hb] at h
    have hb:AP s 10 [124]=false:=Bool.eq_false_iff.2 hb
    repeat' ((conv=>whnf);first|(refine AV ?_;intros)|refine CJ ?_|(refine IE ?_ ?_<;>intro e h)|(refine Jx ?_;intro s1 hz hl hm h)|(refine Rh ?_;intro e he h)|(refine El ?_;intro U st1 hc)|exact CV|fail)
 .rintro ⟨⟨l,n,w⟩,s1,st1,U⟩ ⟨hm,hc,hl,h⟩
  dsimp only at hm hc hl h |-
  simp only [Nz,Rd.Ag,Rd.Ao,Rd.wp_seq,Rd.wp_ret] at h
  refine Aj Ac ?_
  repeat' ((conv=>whnf);first|refine BI H1 ?_|(refine AV ?_;intros)|refine Ba.go hL.decls ‹_› hc h (λn s1 st1 hr hl hm hc h=>?_) (λe n s1 st1 he hc h=>?_)|refine Rx.BE hc.drop la (λU st1 hc=>?_)|refine CJ ?_|(refine IE ?_ ?_<;>intro e h)|(refine Jx ?_;intro s1 hz hl hm h)|(refine Rh ?_;intro e he h)|(refine El ?_;intro U st1 hc)|exact CV|fail)
end
end Go.Proofs.Z
namespace Go.Aw
open Go
theorem rh {a:UInt8}:A6 (a::r)=((a.toNat:Nat):Int):=rfl
theorem cj (h:s.length<=2):B7 s=(10,0):=by
 unfold B7
 rw [if_neg]
 rintro ⟨_,_,U⟩
 exact U (by rw [List.drop_eq_nil_iff.2 h];rfl)
theorem OQ {a b:UInt8}:Ex (a::b::r)=if ((b.toNat:Nat):Int)=111\/((b.toNat:Nat):Int)=79 then 8 else if ((b.toNat:Nat):Int)=120\/((b.toNat:Nat):Int)=88 then 16 else 10:=rfl
theorem lk {b:UInt8} (h:b.toNat=111\/b.toNat=79\/b.toNat=120\/b.toNat=88):BQ ((b.toNat:Nat):Int) 10<0:=by
 rcases h with h|h|h|h<;>(rw [h];decide)
theorem eL {a b:UInt8} (h:b.toNat=111\/b.toNat=79\/b.toNat=120\/b.toNat=88) (hn:FX (a::b::r) 11=true):B7 (a::b::r)≠(10,0):=λe=>by
 have U:=(PG hn).1
 rw [e] at U
 replace U:BJ 10 (a::b::r)=r.length+2:=U
 rw [BJ,BJ,if_pos (lk h)] at U
 split at U<;>omega
theorem wc {a b:UInt8} (hb:b.toNat=111\/b.toNat=79) (hn:FX (a::b::r) 11=true):B7 (a::b::r)=(8,2):=by
 have U:Ex (a::b::r)=8:=by
  rw [OQ,if_pos H1]
 rcases Ir (a::b::r) with e|⟨e,_⟩|⟨_,e⟩
 .exact absurd e (eL H1 hn)
 .exact e
 .rw [U] at e;cases e
theorem rZ {a b:UInt8} (hb:b.toNat=120\/b.toNat=88) (hn:FX (a::b::r) 11=true):B7 (a::b::r)=(16,2):=by
 have U:Ex (a::b::r)=16:=by
  rw [OQ,if_neg H1,if_pos H1]
 rcases Ir (a::b::r) with e|⟨_,e⟩|⟨e,_⟩
 .exact absurd e (eL H1 hn)
 .rw [U] at e;cases e
 .exact e
theorem eK {a b:UInt8} (hb:¬a.toNat=48\/¬(b.toNat=111\/b.toNat=79\/b.toNat=120\/b.toNat=88)):B7 (a::b::r)=(10,0):=by
 unfold B7
 rw [if_neg]
 rintro ⟨U,h2,_⟩
 rw [rh] at U
 refine h2 ?_
 rw [OQ,if_neg H1,if_neg H1]
end Go.Aw
namespace Go.Proofs.Z
open Go Go.Aw
section
variable {st:St} {R:AD->St->Prop}
theorem od (hn:FX s 11=true) (h:R (.ret (.Bl [.int .i64 (B7 s).1,.int .i64 ((B7 s).2:Nat)])) st):PC 239 [.str s] st R:=by
 refine pB Tryz.func239 ?_
 by_cases hl:s.length<=2
 .rw [cj hl] at h
  repeat' ((conv=>whnf);(first|refine AV ?_|refine BU ?_ ?_|refine WJ ?_)<;>intros)
  all_goals exact fin h rfl
 .obtain ⟨a,b,c,r,rfl⟩:∃a b c r,s=a::b::c::r:=by
   cases s with
   |nil=>exact absurd (Nat.zero_le _) hl
   |cons a s=>
    cases s with
    |nil=>exact absurd (by show 1<=2;omega) hl
    |cons b s=>
     cases s with
     |nil=>exact absurd (by show 2<=2;omega) hl
     |cons c r=>exact ⟨a,b,c,r,rfl⟩
  have h0:(a::b::c::r)[(0:Int).toNat]? =some a:=rfl
  have h1:(a::b::c::r)[(1:Int).toNat]? =some b:=rfl
  have hlen:(((a::b::c::r).length:Nat):Int)>2:=by simp only [List.length_cons];omega
  by_cases ha:((a.toNat:Nat):Int)=48
  .by_cases U:b.toNat=111\/b.toNat=79
   .rw [wc U hn] at h
    rcases U with U|U
    all_goals have U:((b.toNat:Nat):Int)=_:=congrArg Nat.cast U
    all_goals (repeat' ((conv=>whnf);(first|refine AV ?_|refine BU ?_ ?_|refine WJ ?_|refine WL ‹_› H1 ?_)<;>intros))
    all_goals exact fin h rfl
   .by_cases h16:b.toNat=120\/b.toNat=88
    .rw [rZ h16 hn] at h
     repeat' ((conv=>whnf);(first|refine AV ?_|refine BU ?_ ?_|refine WJ ?_|refine WL ‹_› H1 ?_)<;>intros)
     all_goals exact fin h rfl
    .rw [eK (.inr H1)] at h
     repeat' ((conv=>whnf);(first|refine AV ?_|refine BU ?_ ?_|refine WJ ?_|refine WL ‹_› H1 ?_)<;>intros)
     all_goals exact fin h rfl
  .rw [eK (.inl H1)] at h
   repeat' ((conv=>whnf);(first|refine AV ?_|refine BU ?_ ?_|refine WJ ?_|refine WL ‹_› H1 ?_)<;>intros)
   all_goals exact fin h rfl
theorem Zm (hl:s.length<=4611686018427387903) (h:R (.ret (.bool (FX s 11))) st):PC 238 [.str s,.int .i64 11] st R:=by
 refine pB Tryz.func238 ?_
 cases s with
 |nil=>
  have hz:((([]:List UInt8).length:Nat):Int)=0:=rfl
  have h0:∀{st:St} {R:AD->St->Prop},R (.ret (.Bl [.int .i64 0,.int .i64 0])) st->PC 309 [.str [],.int .i64 0] st R:=λh=>by
   refine pB Tryz.func309 ?_
   repeat' ((conv=>whnf);(first|refine AV ?_|refine BU ?_ ?_|refine WJ ?_)<;>intros)
   all_goals exact fin h rfl
  repeat' ((conv=>whnf);(first|refine AV ?_|refine BU ?_ ?_|refine h0 ?_|refine WJ ?_)<;>intros)
  all_goals exact fin h rfl
 |cons a r=>
  have hk:(FX (a::r) 11=true↔(HP (a::r) 0).1=11/\(HP (a::r) 0).2=(((a::r).length:Nat):Int)):=by
   rw [JQ]
   unfold HP
   rw [List.drop_zero]
   split
   .rename_i e
    rw [e]
    constructor
    .intro h;exact absurd h.1 IR
    .intro h;exact absurd h.1 (by show ¬(0:Int)=11;decide)
   .simp only [Nat.zero_add]
    constructor
    .rintro ⟨h1,h2⟩;exact ⟨h1,by rw [h2]⟩
    .rintro ⟨h1,h2⟩;exact ⟨h1,H1⟩
  have hpos:(((a::r).length:Nat):Int)>0:=by simp only [List.length_cons];omega
  have U:∀{st:St} {R:AD->St->Prop},R (.ret (.Bl [.int .i64 (HP (a::r) 0).1,.int .i64 (HP (a::r) 0).2])) st->PC 309 [.str (a::r),.int .i64 0] st R:=λh=>wC (pos:=0) hl (by rw [List.length_cons];omega) h
  generalize HP (a::r) 0=q at hk U
  repeat' ((conv=>whnf);(first|refine AV ?_|refine BU ?_ ?_|refine U ?_|refine WJ ?_)<;>intros)
  all_goals conv=>whnf
  all_goals refine An h ?_
  all_goals clear h U
  all_goals first
   |exact hk.2 ⟨Nm,Nm⟩
   |(apply Bool.eq_false_iff.2;intro e;have:=hk.1 e;omega)
theorem nB {pos:Nat} {a:UInt8} {b:Int} (hb:b<=16) (U:s[pos]? =some a) (hr:BJ b (s.drop pos)=s.length - pos) (k:∀d,d=BQ ((a.toNat:Nat):Int) b->0<=d->d<b->R (.ret (.int .i64 d)) st):PC 240 [.int .i64 ((a.toNat:Nat):Int),.int .i64 b] st R:=by
 have hn:¬BQ ((a.toNat:Nat):Int) b<0:=λe=>by
  rw [QW U,if_pos e] at hr
  have:=(List.getElem?_eq_some_iff.1 U).1
  omega
 obtain ⟨h1,h2,_⟩:=TZ hb hn
 exact YX (k _ rfl h1 h2)
theorem oq (h:R (.ret (.Bl [.int .i64 (Fs s).1,.int .i64 (Fs s).2])) st):PC 184 [.str s] st R:=by
 refine Ul ⟨_,Tryz.func184,IR,IR⟩ λhl0=>?_
 have hl:s.length<=4611686018427387903:=H1
 refine pB Tryz.func184 ?_
 cases hn:FX s 11 with
 |false=>
  have hw:Fs s=(0,40):=by
   unfold Fs
   rw [if_neg λe=>?_]
   rw [JQ.2 e] at hn;cases hn
  rw [hw] at h
  have hwh:∀{st:St} {R:AD->St->Prop},R (.ret (.bool false)) st->PC 238 [.str s,.int .i64 11] st R:=λh=>Zm hl (by rw [hn];exact h)
  repeat' ((conv=>whnf);first|(refine AV ?_;intros)|(refine BU ?_ ?_<;>intro _)|refine hwh ?_)
  all_goals exact fin h rfl
 |true=>
  obtain ⟨hr,hle⟩:=PG hn
  have key:∀(b:Int) (n:Nat),B7 s=(b,n)->b=10\/b=8\/b=16:=λb n e=>by
   rcases Ir s with h|⟨h,_⟩|⟨h,_⟩<;>(rw [h] at e;cases e;omega)
  have hwh:∀{st:St} {R:AD->St->Prop},R (.ret (.bool true)) st->PC 238 [.str s,.int .i64 11] st R:=λh=>Zm hl (by rw [hn];exact h)
  have hpa:=λ{st:St} {R:AD->St->Prop}=>od (st:=st) (R:=R) hn
  generalize hp:B7 s=p at hr hle hpa
  obtain ⟨b,n⟩:=p
  dsimp only at hr hle hpa
  have hb:=key b n hp
  rw [UP hn hp] at h
  clear hp key
  repeat' ((conv=>whnf);first|(refine AV ?_;intros)|(refine BU ?_ ?_<;>intro _)|refine hwh ?_|refine hpa ?_)
  refine VG (α:=Nat) (β:=Int) (λpos v=>[(5,.int .i64 (pos:Nat)),(6,.int .i64 v)]) (λpos v=>[]) [0,4] [] (λ_ _=>st) (λpos v=>pos<=s.length/\BJ b (s.drop pos)=s.length - pos/\Ha b (s.drop n) 0=Ha b (s.drop pos) v/\0<=v/\v<=4611686018427387904) (λpos v=>s.length - pos) n 0 ⟨hle,hr,rfl,H1,H1⟩ Yl (St.le_refl _) ?_
  rintro pos v ⟨j1,j2,j3,j4,j5⟩
  rw [j3] at h
  have hb0:0<b:=H1
  by_cases hlt:pos<s.length
  .obtain ⟨a,ha⟩:∃a,s[((pos:Nat):Int).toNat]? =some a:=⟨_,List.getElem?_eq_getElem hlt⟩
   have ha':s[pos]? =some a:=ha
   have ha256:a.toNat<256:=a.toNat_lt
   have hg:Ha b (s.drop pos) v=if (4611686018427387904 - BQ ((a.toNat:Nat):Int) b) / b<v then (0,3) else Ha b (s.drop (pos+1)) (v*b+BQ ((a.toNat:Nat):Int) b):=by rw [drop_at ha',Ha]
   have hr1:=QW (base:=b) ha'
   repeat' ((conv=>whnf);first|(refine AV ?_;intros)|(refine BU ?_ ?_<;>intro _)|refine WJ (λ_=>?_)|refine WL ‹_› H1 ?_|refine nB H1 ha' j2 (λd hd0 hd1 hd2=>?_)|refine Wr hb0 H1 H1 ?_|refine ui hb j4 hd1 hd2 H1 ?_|refine tM hb j4 hd1 hd2 H1 ?_|refine Wq (a:=(pos:Int)+1) H1 H1 ?_)
   .rename_i U
    rw [hg,<-hd0,if_pos U] at h
    exact fin h rfl
   .rename_i U
    have hf:=tV hb j4 hd1 hd2 U
    rw [<-hd0,if_neg U] at hg
    rw [<-hd0,if_neg H1] at hr1
    conv=>whnf
    exact ⟨(pos+1,v*b+d),⟨f9,f9,by rw [j3,hg],hf.1,hf.2⟩,f9,Yl,St.le_refl _⟩
  .skip
   repeat' ((conv=>whnf);first|(refine AV ?_;intros)|(refine BU ?_ ?_<;>intro _)|refine WJ (λ_=>?_))
   rw [List.drop_eq_nil_iff.2 H1] at h
   all_goals exact fin h rfl
end
end Go.Proofs.Z
