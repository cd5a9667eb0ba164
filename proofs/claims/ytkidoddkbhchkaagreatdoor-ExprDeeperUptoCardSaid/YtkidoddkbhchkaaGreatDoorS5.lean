/-
  Parts of a proof: lemmas that the last text uses.
-/
import Derived.Test.YtkidoddkbhchkaaGreatDoorS4
set_option linter.unusedVariables false
set_option linter.unusedSimpArgs false
namespace Go.Proofs.YtkidoddkbhchkaaGreatDoor
open Go Go.Aw
section
variable {st0 st:St} {b d:Nat} {s:Sta} {rows:List (Own×List Nd)} {K:Res→St→Prop} {L:Low} {atom:Rd Nd}
attribute [local irreducible] Go.Aw.appendTo
theorem lone_x {o:Nd} {P:Prop} {Q:Nd→Sta→Prop} {E:Er→Sta→Prop} (hc:Cx st0 b s st rows)
 (h:if symT (nextM s).1=true then (if isF (nextM s).2.1 15 [41]=true then Rd.wp takeR s (fun p s'=>Rd.wp takeR s' (fun c s'=>Q (nodeK 3 [o,p,c]) s') E) E else P) else P)
 (k1:∀n s' st',mu s'≤mu s→Cx st0 b s' st' rows→Q n s'→K (.ret (.tup [enc n,.bool true])) st') (k2:∀st',Cx st0 b s st' rows→P→K (.ret (.tup [enc nd0,.bool false])) st'):
 PC 338 [pv b d,enc o] st K:=by
 refine Xa Xb [] Tryz.func338 rfl (by decide) ?_
 have hmu:=hc.mu
 have hc1:=hc.look
 cases hy:symT (nextM s).1 with
 |false=>
  rw [if_neg (by rw [hy];decide)] at h
  repeat' ((conv=>whnf);first|(with_reducible first|exact Wa|exact Wb|exact Wc|refine Wd (by kernel_rfl) ?_|refine We ?_ ?_ ?_|refine W8 (by decide +kernel) ?_ ?_ ?_|refine W0 (by decide +kernel) ?_ ?_ ?_|refine W9 ?_ ?_ ?_|refine Yd0 ?_|(refine Yd1 ?_ ?_<;>intro e h)|(refine Yd2 ?_ ?_<;>intro _)|refine Wq (by omega) (by omega) ?_)|refine Qf hc (fun st1 hc=>?_)|refine Vj ?_|with_reducible refine WF ?_)
  all_goals exact finw rfl (k2 st1 hc h)
 |true=>
  rw [if_pos hy] at h
  have hkd:=XJ hy
  cases hi:isF (nextM s).2.1 15 [41] with
  |true=>
   rw [if_pos hi] at h
   repeat' ((conv=>whnf);first|(with_reducible first|exact Wa|exact Wb|exact Wc|refine Wd (by kernel_rfl) ?_|refine We ?_ ?_ ?_|refine W8 (by decide +kernel) ?_ ?_ ?_|refine W0 (by decide +kernel) ?_ ?_ ?_|refine W9 ?_ ?_ ?_|refine Yd0 ?_|(refine Yd1 ?_ ?_<;>intro e h)|(refine Yd2 ?_ ?_<;>intro _)|refine Wq (by omega) (by omega) ?_)|refine Xm (St.Xd ..) ?_|refine Je hc.has hc.hb ?_|refine Vj ?_|refine XD hc1 h hkd (fun s1 st1 hz hm hc h=>?_)|refine Qb hc (hz ▸ hi) (fun st1 hc=>?_)|refine take_at hc h (hz ▸ hi) (by decide) (fun s2 st2 hz2 hm2 hc h=>?_)|refine XE ?_|refine Xk [(0,true),(1,true),(2,true),(3,true),(4,false),(5,true),(6,false),(7,false),(8,true)] [2] (by decide +kernel) ?_|with_reducible refine WF ?_)
   all_goals exact finw rfl (k1 _ s2 st2 (by omega) hc h)
  |false=>
   rw [if_neg (by rw [hi];decide)] at h
   repeat' ((conv=>whnf);first|(with_reducible first|exact Wa|exact Wb|exact Wc|refine Wd (by kernel_rfl) ?_|refine We ?_ ?_ ?_|refine W8 (by decide +kernel) ?_ ?_ ?_|refine W0 (by decide +kernel) ?_ ?_ ?_|refine W9 ?_ ?_ ?_|refine Yd0 ?_|(refine Yd1 ?_ ?_<;>intro e h)|(refine Yd2 ?_ ?_<;>intro _)|refine Wq (by omega) (by omega) ?_)|refine Xm (St.Xd ..) ?_|refine Je hc.has hc.hb ?_|refine Vj ?_|refine take_x hc1 hkd (fun s1 st1 hz hm hc=>?_)|refine Qr hc (hz ▸ hi) (fun st1 hc=>?_)|refine go_back hc hmu (fun st2 hc=>?_)|with_reducible refine WF ?_)
   all_goals exact finw rfl (k2 st2 hc h)
set_option maxHeartbeats 4000000 in
theorem Xm4 (hL:LowC d L):RdC enc 302 (fun b=>[pv b d]) (roundR L):=by
 refine ⟨fun {st0 b s st rows K} hc h=>?_⟩
 simp only [roundR,headR,roundB,roundC,Rd.Xi,Rd.Xy,Rd.wp_seq,Rd.wp_ret] at h
 refine XV Xb [] Tryz.func302 rfl (by decide) rfl ?_
 have hmu:=hc.mu
 refine Xn (Xl Xb ?_)
 repeat' ((conv=>whnf);first|(with_reducible first|exact Wa|exact Wb|exact Wc|refine Wd (by kernel_rfl) ?_|refine We ?_ ?_ ?_|refine W8 (by decide +kernel) ?_ ?_ ?_|refine W0 (by decide +kernel) ?_ ?_ ?_|refine W9 ?_ ?_ ?_|refine Yd0 ?_|(refine Yd1 ?_ ?_<;>intro e h)|(refine Yd2 ?_ ?_<;>intro _)|refine Wq (by omega) (by omega) ?_)|with_reducible refine WF ?_)
 refine Xn (Xl Xb ?_)
 repeat' ((conv=>whnf);first|(with_reducible first|exact Wa|exact Wb|exact Wc|refine Wd (by kernel_rfl) ?_|refine We ?_ ?_ ?_|refine W8 (by decide +kernel) ?_ ?_ ?_|refine W0 (by decide +kernel) ?_ ?_ ?_|refine W9 ?_ ?_ ?_|refine Yd0 ?_|(refine Yd1 ?_ ?_<;>intro e h)|(refine Yd2 ?_ ?_<;>intro _)|refine Wq (by omega) (by omega) ?_)|refine XC.go hc h (fun o s1 st1 hr hm hc h=>?_) (fun e s1 st1 hc h=>?_)|exact Qx hc h|with_reducible refine WF ?_)
 refine Xn (Xl Xb ?_)
 repeat' ((conv=>whnf);first|(with_reducible first|exact Wa|exact Wb|exact Wc|refine Wd (by kernel_rfl) ?_|refine We ?_ ?_ ?_|refine W8 (by decide +kernel) ?_ ?_ ?_|refine W0 (by decide +kernel) ?_ ?_ ?_|refine W9 ?_ ?_ ?_|refine Yd0 ?_|(refine Yd1 ?_ ?_<;>intro e h)|(refine Yd2 ?_ ?_<;>intro _)|refine Wq (by omega) (by omega) ?_)|refine Qz hc (by assumption) (fun st1 hc=>?_)|refine Zz hc (by assumption) (fun st1 hc=>?_)|refine ZH hc h (fun st1 hc e h=>?_) (fun st1 hc e h=>?_)|refine Qb hc (by assumption) (fun st1 hc=>?_)|refine Qr hc (by assumption) (fun st1 hc=>?_)|refine Qw hc h (fun st1 hc e h=>?_) (fun st1 hc e h=>?_)|refine Qf hc (fun st1 hc=>?_)|refine take_at hc h (by assumption) (by decide) (fun s1 st1 hz hm hc h=>?_)|refine XD hc h (by first|exact Xw (by assumption)|exact XJ (by assumption)|omega) (fun s1 st1 hz hm hc h=>?_)|refine XC.go hc h (fun n s1 st1 hr hm hc h=>?_) (fun e s1 st1 hc h=>?_)|refine XM.go hc h (fun n s1 st1 hr hm hc h=>?_) (fun e s1 st1 hc h=>?_)|exact Yr0|refine Vt ?_|refine XF ?_|refine XG ?_|refine XE ?_|refine XH ?_|refine XI ?_|(refine Yr2 ?_;intro own1 st1 hc)|refine Xf (fun e1=>?_)|exact Yr1|with_reducible refine WF ?_)
 all_goals first
  |(refine Qs (fun l own=>[(4,.slice 6 (l.map encN) own)]) (fun _ _=>[]) [1,2] [0,1] (fun l own=>(own,l)::rows) (fun l=>l.length) .full (hc.push _) h (by show 1+_≤_;omega) Yl ?_
    intro l s1 st1 own1 hc h hl hm1
    simp only [commasB,Rd.Xi,Rd.Xy,Rd.wp_seq,Rd.wp_ret,Rd.XT] at h
    repeat' ((conv=>whnf);first|(with_reducible first|exact Wa|exact Wb|exact Wc|refine Wd (by kernel_rfl) ?_|refine We ?_ ?_ ?_|refine W8 (by decide +kernel) ?_ ?_ ?_|refine W0 (by decide +kernel) ?_ ?_ ?_|refine W9 ?_ ?_ ?_|refine Yd0 ?_|(refine Yd1 ?_ ?_<;>intro e h)|(refine Yd2 ?_ ?_<;>intro _)|refine Wq (by omega) (by omega) ?_)|refine Qz hc (by assumption) (fun st1 hc=>?_)|refine Zz hc (by assumption) (fun st1 hc=>?_)|refine ZH hc h (fun st1 hc e h=>?_) (fun st1 hc e h=>?_)|refine Qb hc (by assumption) (fun st1 hc=>?_)|refine Qr hc (by assumption) (fun st1 hc=>?_)|refine Qw hc h (fun st1 hc e h=>?_) (fun st1 hc e h=>?_)|refine Qf hc (fun st1 hc=>?_)|refine take_at hc h (by assumption) (by decide) (fun s1 st1 hz hm hc h=>?_)|refine XD hc h (by first|exact Xw (by assumption)|exact XJ (by assumption)|omega) (fun s1 st1 hz hm hc h=>?_)|refine XC.go hc h (fun n s1 st1 hr hm hc h=>?_) (fun e s1 st1 hc h=>?_)|refine XM.go hc h (fun n s1 st1 hr hm hc h=>?_) (fun e s1 st1 hc h=>?_)|exact Yr0|refine Vt ?_|refine XF ?_|refine XG ?_|refine XE ?_|refine XH ?_|refine XI ?_|(refine Yr2 ?_;intro own1 st1 hc)|refine Xf (fun e1=>?_)|exact Yr1|with_reducible refine WF ?_))
  |skip
 refine Xn (Xl Xb ?_)
 repeat' ((conv=>whnf);first|(with_reducible first|exact Wa|exact Wb|exact Wc|refine Wd (by kernel_rfl) ?_|refine We ?_ ?_ ?_|refine W8 (by decide +kernel) ?_ ?_ ?_|refine W0 (by decide +kernel) ?_ ?_ ?_|refine W9 ?_ ?_ ?_|refine Yd0 ?_|(refine Yd1 ?_ ?_<;>intro e h)|(refine Yd2 ?_ ?_<;>intro _)|refine Wq (by omega) (by omega) ?_)|refine lone_x (Q:=fun n s'=>∀st',Cx st0 b s' st' rows→K (.ret (enc n)) st') hc h (fun n s1 st1 hm hc h=>?_) (fun st1 hc h=>?_)|refine Qz hc (by assumption) (fun st1 hc=>?_)|refine Zz hc (by assumption) (fun st1 hc=>?_)|refine ZH hc h (fun st1 hc e h=>?_) (fun st1 hc e h=>?_)|refine Qb hc (by assumption) (fun st1 hc=>?_)|refine Qr hc (by assumption) (fun st1 hc=>?_)|refine Qw hc h (fun st1 hc e h=>?_) (fun st1 hc e h=>?_)|refine Qf hc (fun st1 hc=>?_)|refine take_at hc h (by assumption) (by decide) (fun s1 st1 hz hm hc h=>?_)|refine XD hc h (by first|exact Xw (by assumption)|exact XJ (by assumption)|omega) (fun s1 st1 hz hm hc h=>?_)|refine XC.go hc h (fun n s1 st1 hr hm hc h=>?_) (fun e s1 st1 hc h=>?_)|refine XM.go hc h (fun n s1 st1 hr hm hc h=>?_) (fun e s1 st1 hc h=>?_)|exact Yr0|refine Vt ?_|refine XF ?_|refine XG ?_|refine XE ?_|refine XH ?_|refine XI ?_|(refine Yr2 ?_;intro own1 st1 hc)|refine Xf (fun e1=>?_)|exact Yr1|with_reducible refine WF ?_)
 refine Xn (Xl Xb ?_)
 repeat' ((conv=>whnf);first|(with_reducible first|exact Wa|exact Wb|exact Wc|refine Wd (by kernel_rfl) ?_|refine We ?_ ?_ ?_|refine W8 (by decide +kernel) ?_ ?_ ?_|refine W0 (by decide +kernel) ?_ ?_ ?_|refine W9 ?_ ?_ ?_|refine Yd0 ?_|(refine Yd1 ?_ ?_<;>intro e h)|(refine Yd2 ?_ ?_<;>intro _)|refine Wq (by omega) (by omega) ?_)|refine Qz hc (by assumption) (fun st1 hc=>?_)|refine Zz hc (by assumption) (fun st1 hc=>?_)|refine ZH hc h (fun st1 hc e h=>?_) (fun st1 hc e h=>?_)|refine Qb hc (by assumption) (fun st1 hc=>?_)|refine Qr hc (by assumption) (fun st1 hc=>?_)|refine Qw hc h (fun st1 hc e h=>?_) (fun st1 hc e h=>?_)|refine Qf hc (fun st1 hc=>?_)|refine take_at hc h (by assumption) (by decide) (fun s1 st1 hz hm hc h=>?_)|refine XD hc h (by first|exact Xw (by assumption)|exact XJ (by assumption)|omega) (fun s1 st1 hz hm hc h=>?_)|refine XC.go hc h (fun n s1 st1 hr hm hc h=>?_) (fun e s1 st1 hc h=>?_)|refine XM.go hc h (fun n s1 st1 hr hm hc h=>?_) (fun e s1 st1 hc h=>?_)|exact Yr0|refine Vt ?_|refine XF ?_|refine XG ?_|refine XE ?_|refine XH ?_|refine XI ?_|(refine Yr2 ?_;intro own1 st1 hc)|refine Xf (fun e1=>?_)|exact Yr1|refine Xbb.go hc h (fun n s1 st1 hr hm hc h=>?_) (fun e s1 st1 hc h=>?_)|refine RdC.go hL.ops hc h (fun n s1 st1 hr hm hc h=>?_) (fun e s1 st1 hc h=>?_)|refine Xk [(0,true),(1,true),(2,true),(4,true),(5,true),(3,false),(6,false),(7,true),(8,false),(9,false)] [1] (by decide +kernel) ?_|with_reducible refine WF ?_)
 all_goals refine XdG 3 2 rfl rfl rfl (fun c fc=>?_)
 all_goals have hne:=hc.freshb fc
 all_goals refine Xl Xb ?_
 all_goals (repeat' ((conv=>whnf);first|(with_reducible first|exact Wa|exact Wb|exact Wc|refine Wd (by kernel_rfl) ?_|refine We ?_ ?_ ?_|refine W8 (by decide +kernel) ?_ ?_ ?_|refine W0 (by decide +kernel) ?_ ?_ ?_|refine W9 ?_ ?_ ?_|refine Yd0 ?_|(refine Yd1 ?_ ?_<;>intro e h)|(refine Yd2 ?_ ?_<;>intro _)|refine Wq (by omega) (by omega) ?_)|refine hL.brack (St.Xd ..) (hc.rebase1 fc) (Rd.wp_mono h (fun v s1 hr h st1 hc=>?_) (fun e s1 hr h st1 hc=>?_))|exact Zj (hc.unbox hne) h rfl|exact Qx (hc.unbox hne) h|with_reducible refine WF ?_))
end
section
variable {st0 st:St} {b d:Nat} {s:Sta} {rows:List (Own×List Nd)} {K:Res→St→Prop} {L:Low} {atom:Rd Nd}
attribute [local irreducible] Go.Aw.appendTo
theorem Xkw (hL:LowC d L):RdC enc 303 (fun b=>[pv b d]) (squareR L):=by
 refine ⟨fun {st0 b s st rows K} hc h=>?_⟩
 simp only [squareR,Rd.Xi,Rd.Xy,Rd.wp_seq,Rd.wp_ret] at h
 refine XV Xb [] Tryz.func303 rfl (by decide) rfl ?_
 refine Xn (Xl Xb ?_)
 repeat' ((conv=>whnf);first|(with_reducible first|exact Wa|exact Wb|exact Wc|refine Wd (by kernel_rfl) ?_|refine We ?_ ?_ ?_|refine W8 (by decide +kernel) ?_ ?_ ?_|refine W0 (by decide +kernel) ?_ ?_ ?_|refine W9 ?_ ?_ ?_|refine Yd0 ?_|(refine Yd1 ?_ ?_<;>intro e h)|(refine Yd2 ?_ ?_<;>intro _))|with_reducible refine WF ?_)
 refine Xn (Xl Xb ?_)
 repeat' ((conv=>whnf);first|(with_reducible first|exact Wa|exact Wb|exact Wc|refine Wd (by kernel_rfl) ?_|refine We ?_ ?_ ?_|refine W8 (by decide +kernel) ?_ ?_ ?_|refine W0 (by decide +kernel) ?_ ?_ ?_|refine W9 ?_ ?_ ?_|refine Yd0 ?_|(refine Yd1 ?_ ?_<;>intro e h)|(refine Yd2 ?_ ?_<;>intro _))|refine XC.go hc h (fun o s1 st1 hr hm hc h=>?_) (fun e s1 st1 hc h=>?_)|exact Qx hc h|with_reducible refine WF ?_)
 refine Xn (Xl Xb ?_)
 repeat' ((conv=>whnf);first|(with_reducible first|exact Wa|exact Wb|exact Wc|refine Wd (by kernel_rfl) ?_|refine We ?_ ?_ ?_|refine W8 (by decide +kernel) ?_ ?_ ?_|refine W0 (by decide +kernel) ?_ ?_ ?_|refine W9 ?_ ?_ ?_|refine Yd0 ?_|(refine Yd1 ?_ ?_<;>intro e h)|(refine Yd2 ?_ ?_<;>intro _))|refine Qb hc (by assumption) (fun st1 hc=>?_)|refine Qr hc (by assumption) (fun st1 hc=>?_)|refine Qw hc h (fun st1 hc e h=>?_) (fun st1 hc e h=>?_)|refine take_at hc h (by assumption) (by decide) (fun s1 st1 hz hm hc h=>?_)|refine XD hc h (by first|exact Xw (by assumption)|exact XJ (by assumption)|omega) (fun s1 st1 hz hm hc h=>?_)|refine XC.go hc h (fun n s1 st1 hr hm hc h=>?_) (fun e s1 st1 hc h=>?_)|exact Yr0|refine XF ?_|refine XG ?_|refine XE ?_|refine XH ?_|refine XI ?_|refine Xf (fun e1=>?_)|exact Yr1|refine Xk [(0,true),(1,true),(2,true),(3,false),(4,true),(5,false),(6,false)] [1] (by decide +kernel) ?_|with_reducible refine WF ?_)
 all_goals refine XdG 3 2 rfl rfl rfl (fun c fc=>?_)
 all_goals have hne:=hc.freshb fc
 all_goals refine Xl Xb ?_
 all_goals (repeat' ((conv=>whnf);first|(with_reducible first|exact Wa|exact Wb|exact Wc|refine Wd (by kernel_rfl) ?_|refine We ?_ ?_ ?_|refine W8 (by decide +kernel) ?_ ?_ ?_|refine W0 (by decide +kernel) ?_ ?_ ?_|refine W9 ?_ ?_ ?_|refine Yd0 ?_|(refine Yd1 ?_ ?_<;>intro e h)|(refine Yd2 ?_ ?_<;>intro _))|refine hL.list (St.Xd ..) (hc.rebase1 fc) (Rd.wp_mono h (fun v s1 hr h st1 hc=>?_) (fun e s1 hr h st1 hc=>?_))|exact Zj (hc.unbox hne) h rfl|exact Qx (hc.unbox hne) h|with_reducible refine WF ?_))
set_option maxHeartbeats 4000000 in
theorem base_rd (hL:LowC d L):RdC enc 252 (fun b=>[pv b d]) (baseR L):=by
 refine ⟨fun {st0 b s st rows K} hc h=>?_⟩
 simp only [baseR,Rd.Xi,Rd.Xy,Rd.wp_seq,Rd.wp_ret] at h
 refine Xa Xb [] Tryz.func252 rfl (by decide) ?_
 repeat' ((conv=>whnf);first|(with_reducible first|exact Wa|exact Wb|exact Wc|refine Wd (by kernel_rfl) ?_|refine We ?_ ?_ ?_|refine W8 (by decide +kernel) ?_ ?_ ?_|refine W0 (by decide +kernel) ?_ ?_ ?_|refine W9 ?_ ?_ ?_|refine Yd0 ?_|(refine Yd1 ?_ ?_<;>intro e h)|(refine Yd2 ?_ ?_<;>intro _)|refine Wq (by omega) (by omega) ?_)|refine Qz hc (by assumption) (fun st1 hc=>?_)|refine Zz hc (by assumption) (fun st1 hc=>?_)|refine ZH hc h (fun st1 hc e h=>?_) (fun st1 hc e h=>?_)|refine Qf hc (fun st1 hc=>?_)|refine take_at hc h (by assumption) (by decide) (fun s1 st1 hz hm hc h=>?_)|refine XD hc h (by first|exact Xw (by assumption)|exact XJ (by assumption)|omega) (fun s1 st1 hz hm hc h=>?_)|refine XC.go hc h (fun n s1 st1 hr hm hc h=>?_) (fun e s1 st1 hc h=>?_)|refine Jk hc h (fun e s1 st1 hc h=>?_)|exact Yr0|refine JM ?_|refine XF ?_|refine XG ?_|refine XE ?_|refine XH ?_|refine XI ?_|refine Xf (fun e1=>?_)|exact Yr1|refine RdC.go (Xm4 hL) hc h (fun n s1 st1 hr hm hc h=>?_) (fun e s1 st1 hc h=>?_)|refine RdC.go (Xkw hL) hc h (fun n s1 st1 hr hm hc h=>?_) (fun e s1 st1 hc h=>?_)|refine RdC.go hL.atom hc h (fun n s1 st1 hr hm hc h=>?_) (fun e s1 st1 hc h=>?_)|refine Xk [(0,true),(1,true),(3,true),(2,false),(4,false),(5,true),(6,false),(7,false)] [1] (by decide +kernel) ?_|refine Xk [(0,true),(1,true),(2,true),(4,true),(3,false),(5,false),(6,true),(7,false),(8,false)] [1] (by decide +kernel) ?_|with_reducible refine WF ?_)
theorem Xme:RdC enc 250 (fun b=>[.ptr b 0,.slice 1 [[.int .i64 1],[.int .i64 3]] .full]) (kindR [1,3]):=Xix (ks:=[1,3]) (by decide)
set_option maxHeartbeats 4000000 in
theorem Xkg (hL:LowC d L) {n:Nd}:RdC enc 253 (fun b=>[pv b d,enc n]) (recordR L n):=by
 refine ⟨fun {st0 b s st rows K} hc h=>?_⟩
 simp only [recordR,Rd.Xi,Rd.Xy,Rd.wp_seq,Rd.wp_ret] at h
 refine Xa Xb [] Tryz.func253 rfl (by decide) ?_
 have hmu:=hc.mu
 repeat' ((conv=>whnf);first|(with_reducible first|exact Wa|exact Wb|exact Wc|refine Wd (by kernel_rfl) ?_|refine We ?_ ?_ ?_|refine W8 (by decide +kernel) ?_ ?_ ?_|refine W0 (by decide +kernel) ?_ ?_ ?_|refine W9 ?_ ?_ ?_|refine Yd0 ?_|(refine Yd1 ?_ ?_<;>intro e h)|(refine Yd2 ?_ ?_<;>intro _)|refine Wl (fun _=>?_)|refine Wq (by omega) (by omega) ?_|refine Wz (fun _=>?_)|refine WA (fun _=>?_))|refine Qb hc (by assumption) (fun st1 hc=>?_)|refine Qr hc (by assumption) (fun st1 hc=>?_)|refine Qw hc h (fun st1 hc e h=>?_) (fun st1 hc e h=>?_)|refine take_at hc h (by assumption) (by decide) (fun s1 st1 hz hm hc h=>?_)|refine XD hc h (by first|exact Xw (by assumption)|exact XJ (by assumption)|omega) (fun s1 st1 hz hm hc h=>?_)|refine XC.go hc h (fun n s1 st1 hr hm hc h=>?_) (fun e s1 st1 hc h=>?_)|refine XM.go hc h (fun n s1 st1 hr hm hc h=>?_) (fun e s1 st1 hc h=>?_)|exact Yr0|refine XF ?_|refine XG ?_|refine XE ?_|refine XH ?_|refine XI ?_|(refine Yr2 ?_;intro own1 st1 hc)|refine Zl (fun _=>?_)|refine Xf (fun e1=>?_)|exact Yr1|refine Xk [(0,true),(1,true),(2,true),(3,false),(4,true),(5,true)] [] (by decide +kernel) ?_|refine Xk [(0,true),(1,true),(2,true),(3,true),(5,true),(4,false),(6,false),(7,true),(8,false),(9,true),(10,false),(11,true)] [] (by decide +kernel) ?_|with_reducible refine WF ?_)
 refine Qs (fun l own=>[(5,.slice 6 (l.map encN) own)]) (fun _ _=>[]) [2,4] [0,2] (fun l own=>(own,l)::rows) (fun l=>l.length) .full (hc.push _) h (by show 2+_≤_;omega) Yl ?_
 intro l s1 st1 own1 hc h hl hm1
 simp only [recordB,fieldS,Rd.Xi,Rd.Xy,Rd.wp_seq,Rd.wp_ret,Rd.XT] at h
 repeat' ((conv=>whnf);first|(with_reducible first|exact Wa|exact Wb|exact Wc|refine Wd (by kernel_rfl) ?_|refine We ?_ ?_ ?_|refine W8 (by decide +kernel) ?_ ?_ ?_|refine W0 (by decide +kernel) ?_ ?_ ?_|refine W9 ?_ ?_ ?_|refine Yd0 ?_|(refine Yd1 ?_ ?_<;>intro e h)|(refine Yd2 ?_ ?_<;>intro _)|refine Wl (fun _=>?_)|refine Wq (by omega) (by omega) ?_|refine Wz (fun _=>?_)|refine WA (fun _=>?_))|refine Qb hc (by assumption) (fun st1 hc=>?_)|refine Qr hc (by assumption) (fun st1 hc=>?_)|refine Qw hc h (fun st1 hc e h=>?_) (fun st1 hc e h=>?_)|refine take_at hc h (by assumption) (by decide) (fun s1 st1 hz hm hc h=>?_)|refine XD hc h (by first|exact Xw (by assumption)|exact XJ (by assumption)|omega) (fun s1 st1 hz hm hc h=>?_)|refine XC.go hc h (fun n s1 st1 hr hm hc h=>?_) (fun e s1 st1 hc h=>?_)|refine XM.go hc h (fun n s1 st1 hr hm hc h=>?_) (fun e s1 st1 hc h=>?_)|exact Yr0|refine XF ?_|refine XG ?_|refine XE ?_|refine XH ?_|refine XI ?_|(refine Yr2 ?_;intro own1 st1 hc)|refine Zl (fun _=>?_)|refine Xf (fun e1=>?_)|exact Yr1|refine RdC.gof Xme (Xg1 rfl) hc h (fun n s1 st1 hr hm hc h=>?_) (fun e s1 st1 hc h=>?_)|refine RdC.go hL.exp hc h (fun n s1 st1 hr hm hc h=>?_) (fun e s1 st1 hc h=>?_)|refine Xk [(0,true),(1,true),(2,true),(3,false),(4,true),(5,true)] [] (by decide +kernel) ?_|refine Xk [(0,true),(1,true),(2,true),(3,true),(5,true),(4,false),(6,false),(7,true),(8,false),(9,true),(10,false),(11,true)] [] (by decide +kernel) ?_|with_reducible refine WF ?_)
 all_goals conv=>whnf
end
theorem XgZ {L:Low}:Rd.Falls (baseR L):=Rd.Falls.look fun s v s' h=>by
 split at h
 ·rename_i ha
  have hk:=(Xw ha).2
  have ht:∀{v:Nd} {s':Sta},takeR.run s=.inr (v,s')→mu s'<mu s:=fun e=>Vk e hk
  split at h
  ·split at h
   ·exact Rd.Falls.at (fun _ _ e=>ht e) h
   ·exact Rd.Falls.at (fun _ _ e=>ht e) h
  ·split at h
   ·exact Rd.Falls.at (fun _ _ e=>ht e) h
   ·split at h
    ·exact Rd.Falls.at (fun _ _ e=>ht e) h
    ·exact Rd.Falls.at (fun _ _ e=>ht e) h
 ·cases h
theorem Xfr {L:Low}:Rd.Falls (atomR L):=Rd.Falls.seq XgZ
theorem Xd0 {L:Low} {n:Nd} {s s':Sta} {v:Nd} (h:(recordR L n).run s=.inr (v,s')) (e:isF s 15 [123]=true):mu s'<mu s:=by
 refine Rd.Falls.at (fun v s' e2=>Vk e2 fun z=>?_) h
 unfold isF at e
 simp only [Bool.and_eq_true,beq_iff_eq] at e
 rw [z] at e;exact absurd e.1 (by decide)
theorem Xdu {stmt:Rd Nd} {l l':List Nd} {s s':Sta} (h:(qualsR stmt l).run s=.inr (l',s')):l'.length+4*mu s'≤l.length+2+4*mu s:=by
 unfold qualsR at h
 obtain ⟨b,s1,h1,h⟩:=XW h
 obtain ⟨t,s2,h2,h⟩:=XW h
 have e1:=(wantR 10 [124]).le _ _ _ h1
 have e2:=stmt.le _ _ _ h2
 have:=Rd.Xmt (body:=qualsB stmt) (w:=List.length) (w':=List.length) (c:=0) (fun x s x' s' h=>by
  unfold qualsB at h
  replace h:(if isF s 15 [44]=true then Rd.seq takeR fun c=>Rd.seq stmt fun t=>.ret (.inl (x++[c]++[t])) else .ret (.inr x):Rd (Sum (List Nd) (List Nd))).run s=.inr (.inl x',s'):=h
  split at h
  ·obtain ⟨_,_,_,h⟩:=XW h
   obtain ⟨_,_,_,h⟩:=XW h
   cases h
   simp
  ·cases h) (fun x s y s' h=>by
  unfold qualsB at h
  replace h:(if isF s 15 [44]=true then Rd.seq takeR fun c=>Rd.seq stmt fun t=>.ret (.inl (x++[c]++[t])) else .ret (.inr x):Rd (Sum (List Nd) (List Nd))).run s=.inr (.inr y,s'):=h
  split at h
  ·obtain ⟨_,_,_,h⟩:=XW h
   obtain ⟨_,_,_,h⟩:=XW h
   cases h
  ·cases h;exact Nat.le_refl _) _ _ _ _ h
 simp only [List.length_append,List.length_cons,List.length_nil] at this
 omega
theorem app_b {l:List Nd} {c x y:Nat} (h:l.length+4*y≤c+2+4*x) (hc:c≤500000000) (hx:x≤100000000):l.length+1≤1000000000:=by omega
section
variable {st0 st:St} {b d:Nat} {s:Sta} {rows:List (Own×List Nd)} {K:Res→St→Prop} {L:Low}
attribute [local irreducible] Go.Aw.appendTo
theorem atom_rd (hL:LowC d L):RdC enc 202 (fun b=>[pv b d]) (atomR L):=by
 refine ⟨fun {st0 b s st rows K} hc h=>?_⟩
 simp only [atomR,Rd.wp_seq] at h
 refine Xa Xb [] Tryz.func202 rfl (by decide) ?_
 have hmu:=hc.mu
 repeat' ((conv=>whnf);first|(with_reducible first|refine Yd0 ?_|(refine Yd1 ?_ ?_<;>intro e h)|(refine Yd2 ?_ ?_<;>intro _))|refine RdC.go (base_rd hL) hc h (fun n s1 st1 hr hm hc h=>?_) (fun e s1 st1 hc h=>?_)|exact Qx hc h)
 refine Qs (fun n own=>[]) (fun n own=>[(2,encN n)]) [1,2,3] [0,1] (fun l own=>rows) (fun _=>0) .full hc h (by show 0+_≤_;omega) Yl ?_
 intro n s1 st1 own1 hc h hl hm1
 simp only [atomB,Rd.Xi,Rd.Xy,Rd.wp_seq,Rd.wp_ret,Rd.XT] at h
 repeat' ((conv=>whnf);first|(with_reducible first|refine Yd0 ?_|(refine Yd1 ?_ ?_<;>intro e h)|(refine Yd2 ?_ ?_<;>intro _))|refine Qb hc (by assumption) (fun st1 hc=>?_)|refine Qr hc (by assumption) (fun st1 hc=>?_)|refine Qw hc h (fun st1 hc e h=>?_) (fun st1 hc e h=>?_)|exact Yr0|refine Xf (fun e1=>?_)|exact Yr1|refine RdC.go (Xkg hL) hc h (fun n s1 st1 hr hm hc h=>?_) (fun e s1 st1 hc h=>?_))
 all_goals have hlt:=Xd0 (by assumption) (by assumption)
 all_goals conv=>whnf
 all_goals exact ⟨⟨_,_,_,.full⟩,⟨hc,Rd.JL h hlt,(by dsimp only;omega),(by dsimp only;omega)⟩,hlt,Yl,St.le_refl _⟩
theorem Xf0 {stmt:Rd Nd} (hs:RdC enc 60 (fun b=>[pv b d]) stmt):RdP 192 (fun b v=>[pv b d,v]) (fun l=>qualsR stmt l):=by
 refine ⟨fun {st0 b s st rows K own l} hl hc h=>?_⟩
 simp only [qualsR,Rd.wp_seq] at h
 refine Xa Xb [] Tryz.func192 rfl (by decide) ?_
 have hmu:=hc.mu
 repeat' ((conv=>whnf);first|(with_reducible first|refine Yd0 ?_|(refine Yd1 ?_ ?_<;>intro e h)|(refine Yd2 ?_ ?_<;>intro _)|refine Wx (fun _=>?_) ?_|refine Wy (fun _=>?_) ?_)|refine Qb hc (by assumption) (fun st1 hc=>?_)|refine Qr hc (by assumption) (fun st1 hc=>?_)|refine Qw hc h (fun st1 hc e h=>?_) (fun st1 hc e h=>?_)|refine take_at hc h (by assumption) (by decide) (fun s1 st1 hz hm hc h=>?_)|refine XD hc h (by first|exact Xw (by assumption)|exact XJ (by assumption)|omega) (fun s1 st1 hz hm hc h=>?_)|refine XC.go hc h (fun n s1 st1 hr hm hc h=>?_) (fun e s1 st1 hc h=>?_)|refine XM.go hc h (fun n s1 st1 hr hm hc h=>?_) (fun e s1 st1 hc h=>?_)|exact Yr0|(refine Yr2 ?_;intro own1 st1 hc)|refine Xf (fun e1=>?_)|exact Yr1|refine RdC.go hs hc h (fun n s1 st1 hr hm hc h=>?_) (fun e s1 st1 hc h=>?_))
 refine Qs (fun l own=>[(1,.slice 6 (l.map encN) own)]) (fun _ _=>[]) [2] [0] (fun l own=>(own,l)::rows) (fun l=>l.length) _ hc h (by simp only [List.length_append,List.length_cons,List.length_nil];omega) Yl ?_
 intro l s1 st1 own1 hc h hl hm1
 simp only [qualsB,Rd.Xi,Rd.Xy,Rd.wp_seq,Rd.wp_ret,Rd.XT] at h
 repeat' ((conv=>whnf);first|(with_reducible first|refine Yd0 ?_|(refine Yd1 ?_ ?_<;>intro e h)|(refine Yd2 ?_ ?_<;>intro _)|refine Wx (fun _=>?_) ?_|refine Wy (fun _=>?_) ?_)|refine Qb hc (by assumption) (fun st1 hc=>?_)|refine Qr hc (by assumption) (fun st1 hc=>?_)|refine Qw hc h (fun st1 hc e h=>?_) (fun st1 hc e h=>?_)|refine take_at hc h (by assumption) (by decide) (fun s1 st1 hz hm hc h=>?_)|refine XD hc h (by first|exact Xw (by assumption)|exact XJ (by assumption)|omega) (fun s1 st1 hz hm hc h=>?_)|refine XC.go hc h (fun n s1 st1 hr hm hc h=>?_) (fun e s1 st1 hc h=>?_)|refine XM.go hc h (fun n s1 st1 hr hm hc h=>?_) (fun e s1 st1 hc h=>?_)|exact Yr0|(refine Yr2 ?_;intro own1 st1 hc)|refine Xf (fun e1=>?_)|exact Yr1|refine RdC.go hs hc h (fun n s1 st1 hr hm hc h=>?_) (fun e s1 st1 hc h=>?_))
set_option maxHeartbeats 4000000 in
theorem list_rd {exp stmt:Rd Nd} {o:Nd} (he:RdC enc 80 (fun b=>[pv b d]) exp) (hs:RdC enc 60 (fun b=>[pv b d]) stmt):RdC enc 342 (fun b=>[pv b d,enc o]) (listR exp stmt o):=by
 refine ⟨fun {st0 b s st rows K} hc h=>?_⟩
 simp only [listR,Rd.Xi,Rd.Xy,Rd.wp_seq,Rd.wp_ret] at h
 refine Xa Xb [] Tryz.func342 rfl (by decide) ?_
 have hmu:=hc.mu
 repeat' ((conv=>whnf);first|(with_reducible first|exact Wa|exact Wb|exact Wc|refine Wd (by kernel_rfl) ?_|refine We ?_ ?_ ?_|refine W8 (by decide +kernel) ?_ ?_ ?_|refine W0 (by decide +kernel) ?_ ?_ ?_|refine W9 ?_ ?_ ?_|refine Yd0 ?_|(refine Yd1 ?_ ?_<;>intro e h)|(refine Yd2 ?_ ?_<;>intro _)|refine Wl (fun _=>?_)|refine Wq (by omega) (by omega) ?_|refine Wz (fun _=>?_)|refine WA (fun _=>?_))|refine Qz hc (by assumption) (fun st1 hc=>?_)|refine Zz hc (by assumption) (fun st1 hc=>?_)|refine ZH hc h (fun st1 hc e h=>?_) (fun st1 hc e h=>?_)|refine Qb hc (by assumption) (fun st1 hc=>?_)|refine Qr hc (by assumption) (fun st1 hc=>?_)|refine Qw hc h (fun st1 hc e h=>?_) (fun st1 hc e h=>?_)|refine take_at hc h (by assumption) (by decide) (fun s1 st1 hz hm hc h=>?_)|refine XD hc h (by first|exact Xw (by assumption)|exact XJ (by assumption)|omega) (fun s1 st1 hz hm hc h=>?_)|refine XC.go hc h (fun n s1 st1 hr hm hc h=>?_) (fun e s1 st1 hc h=>?_)|refine XM.go hc h (fun n s1 st1 hr hm hc h=>?_) (fun e s1 st1 hc h=>?_)|exact Yr0|refine XF ?_|refine XG ?_|refine XE ?_|refine XH ?_|refine XI ?_|(refine Yr2 ?_;intro own1 st1 hc)|refine Zl (fun _=>?_)|refine Xf (fun e1=>?_)|exact Yr1|refine RdC.go he hc h (fun n s1 st1 hr hm hc h=>?_) (fun e s1 st1 hc h=>?_)|refine hc.app1 (app_b (Xdu (by assumption)) (Nat.le_of_ble_eq_true rfl) (by omega)) (fun own1 st1 hc=>?_)|refine RdP.go (l:=[_,_]) (Xf0 hs) (Nat.le_of_ble_eq_true rfl) (hc.push _) h (fun l own1 s1 st1 hr hm hc h=>?_) (fun e s1 st1 hc h=>?_)|refine Xk [(0,true),(1,true),(2,false),(3,true),(4,true)] [] (by decide +kernel) ?_|refine Xk [(0,true),(1,true),(3,true),(4,true),(2,false),(5,false),(6,true),(7,false),(8,false),(9,false)] [2] (by decide +kernel) ?_|with_reducible refine WF ?_)
 refine Qs (fun l own=>[(5,.slice 6 (l.map encN) own)]) (fun _ _=>[]) [2,4,6] [0,2] (fun l own=>(own,l)::rows) (fun l=>l.length) .full (hc.push _) h (by show 2+_≤_;omega) Yl ?_
 intro l s1 st1 own1 hc h hl hm1
 simp only [listB,listC,Rd.Xi,Rd.Xy,Rd.wp_seq,Rd.wp_ret,Rd.XT] at h
 repeat' ((conv=>whnf);first|(with_reducible first|exact Wa|exact Wb|exact Wc|refine Wd (by kernel_rfl) ?_|refine We ?_ ?_ ?_|refine W8 (by decide +kernel) ?_ ?_ ?_|refine W0 (by decide +kernel) ?_ ?_ ?_|refine W9 ?_ ?_ ?_|refine Yd0 ?_|(refine Yd1 ?_ ?_<;>intro e h)|(refine Yd2 ?_ ?_<;>intro _)|refine Wl (fun _=>?_)|refine Wq (by omega) (by omega) ?_|refine Wz (fun _=>?_)|refine WA (fun _=>?_))|refine Qz hc (by assumption) (fun st1 hc=>?_)|refine Zz hc (by assumption) (fun st1 hc=>?_)|refine ZH hc h (fun st1 hc e h=>?_) (fun st1 hc e h=>?_)|refine Qb hc (by assumption) (fun st1 hc=>?_)|refine Qr hc (by assumption) (fun st1 hc=>?_)|refine Qw hc h (fun st1 hc e h=>?_) (fun st1 hc e h=>?_)|refine take_at hc h (by assumption) (by decide) (fun s1 st1 hz hm hc h=>?_)|refine XD hc h (by first|exact Xw (by assumption)|exact XJ (by assumption)|omega) (fun s1 st1 hz hm hc h=>?_)|refine XC.go hc h (fun n s1 st1 hr hm hc h=>?_) (fun e s1 st1 hc h=>?_)|refine XM.go hc h (fun n s1 st1 hr hm hc h=>?_) (fun e s1 st1 hc h=>?_)|exact Yr0|refine XF ?_|refine XG ?_|refine XE ?_|refine XH ?_|refine XI ?_|(refine Yr2 ?_;intro own1 st1 hc)|refine Zl (fun _=>?_)|refine Xf (fun e1=>?_)|exact Yr1|refine RdC.go he hc h (fun n s1 st1 hr hm hc h=>?_) (fun e s1 st1 hc h=>?_)|with_reducible refine WF ?_)
end
section
variable {st0 st:St} {b d:Nat} {s:Sta} {rows:List (Own×List Nd)} {K:Res→St→Prop} {L:Low}
attribute [local irreducible] Go.Aw.appendTo
theorem Xek (k:K (.pan (fault eForm.1)) st):PC 123 [pv b d,.bool false] st K:=by
 refine Xa Xb [] Tryz.func123 rfl (by decide) ?_
 repeat' ((conv=>whnf);first|(with_reducible first|refine Yd0 ?_|(refine Yd1 ?_ ?_<;>intro e h)|(refine Yd2 ?_ ?_<;>intro _)|refine Wq (by omega) (by omega) ?_)|refine Zv ?_)
 all_goals exact ⟨_,_,.inl rfl,St.le_refl _,k⟩
theorem Xel (k:K (.ret (.tup [])) st):PC 123 [pv b d,.bool true] st K:=by
 refine Xa Xb [] Tryz.func123 rfl (by decide) ?_
 repeat' ((conv=>whnf);first|(with_reducible first|refine Yd0 ?_|(refine Yd1 ?_ ?_<;>intro e h)|(refine Yd2 ?_ ?_<;>intro _)|refine Wq (by omega) (by omega) ?_)|refine Zv ?_)
 all_goals exact ⟨_,_,.inl rfl,St.le_refl _,k⟩
theorem stmt_rd (hL:LowC d L) {exp:Rd Nd} (he:RdC enc 80 (fun b=>[pv b d]) exp):RdC enc 60 (fun b=>[pv b d]) (stmtR L exp):=by
 refine ⟨fun {st0 b s st rows K} hc h=>?_⟩
 simp only [stmtR,bindR,Rd.Xi,Rd.Xy,Rd.wp_seq,Rd.wp_ret,Rd.Zf] at h
 refine Xa Xb [] Tryz.func60 rfl (by decide) ?_
 repeat' ((conv=>whnf);first|(with_reducible first|exact Wa|exact Wb|exact Wc|refine Wd (by kernel_rfl) ?_|refine We ?_ ?_ ?_|refine W8 (by decide +kernel) ?_ ?_ ?_|refine W0 (by decide +kernel) ?_ ?_ ?_|refine W9 ?_ ?_ ?_|refine Yd0 ?_|(refine Yd1 ?_ ?_<;>intro e h)|(refine Yd2 ?_ ?_<;>intro _)|refine Wq (by omega) (by omega) ?_)|refine Qz hc (by assumption) (fun st1 hc=>?_)|refine Zz hc (by assumption) (fun st1 hc=>?_)|refine ZH hc h (fun st1 hc e h=>?_) (fun st1 hc e h=>?_)|refine take_at hc h (by assumption) (by decide) (fun s1 st1 hz hm hc h=>?_)|refine XD hc h (by first|exact Xw (by assumption)|exact XJ (by assumption)|omega) (fun s1 st1 hz hm hc h=>?_)|refine XC.go hc h (fun n s1 st1 hr hm hc h=>?_) (fun e s1 st1 hc h=>?_)|exact Yr0|refine XF ?_|refine XG ?_|refine XE ?_|refine XH ?_|refine XI ?_|refine Xf (fun e1=>?_)|exact Yr1|refine RdC.go he hc h (fun n s1 st1 hr hm hc h=>?_) (fun e s1 st1 hc h=>?_)|refine RdC.go hL.decls hc h (fun n s1 st1 hr hm hc h=>?_) (fun e s1 st1 hc h=>?_)|refine RdC.go (XfI hL.exp) hc h (fun n s1 st1 hr hm hc h=>?_) (fun e s1 st1 hc h=>?_)|refine Xd8 ?_|refine Xel ?_|refine Xek ?_|refine Xk [(0,true),(1,true),(2,false),(3,false)] [] (by decide +kernel) ?_|refine Xk [(0,true),(1,true),(2,true),(4,true),(3,false),(5,false),(6,true),(7,false),(8,false)] [1] (by decide +kernel) ?_|with_reducible refine WF ?_)
 all_goals conv=>whnf
 all_goals exact Qx hc.y h
end
theorem Xfs {stmt:Rd Nd} {l:List Nd}:Rd.Falls (qualsR stmt l):=Rd.Falls.seq (Xb1 (by decide))
theorem Xbt {l:List Nd} {i:Int} {x:Nd} {K:List V→Prop} (h:l[i.toNat]? =some x) (h0:0≤i) (k:K (encN x)):0≤i∧∃e,(l.map encN)[i.toNat]? =some e∧K e:=⟨h0,encN x,by rw [List.getElem?_map,h];rfl,k⟩
section
variable {st0 st:St} {b d:Nat} {s:Sta} {rows:List (Own×List Nd)} {K:Res→St→Prop} {L:Low}
attribute [local irreducible] Go.Aw.appendTo
theorem Vz {stmt:Rd Nd} (hs:RdC enc 60 (fun b=>[pv b d]) stmt) {Q:List Nd→Sta→Prop} {E:Er→Sta→Prop} (hc:Cx st0 b s st rows) (h:Rd.wp (qualsR stmt []) s Q E)
 (k:∀l' own' s' st',l'.length≤400000002→mu s'<mu s→Cx st0 b s' st' ((own',l')::rows)→Q l' s'→K (.ret (.slice 6 (l'.map encN) own')) st') (kb:∀e s' st',Cy st0 b s' st' rows→E e s'→K (.pan (fault e.1)) st'):PC 192 [pv b d,.slice 6 [] .full] st K:=
 RdP.go (l:=[]) (own:=.full) (Xf0 hs) (Nat.le_of_ble_eq_true rfl) (hc.push _) h (fun l' own' s' st' hr hm hc' q=>k l' own' s' st' (by have:=Xdu hr;have:=hc.mu;simp only [List.length_nil] at *;omega) (Xfs _ _ _ hr) hc' q) kb
set_option maxHeartbeats 8000000 in
theorem Xm2 (hL:LowC d L) {exp stmt:Rd Nd} {m:List UInt8} (he:RdC enc 80 (fun b=>[pv b d]) exp) (hs:RdC enc 60 (fun b=>[pv b d]) stmt):RdC enc 131 (fun b=>[pv b d,.str m]) (rhsR L exp stmt m):=by
 refine ⟨fun {st0 b s st rows K} hc h=>?_⟩
 simp only [rhsR,rhsB,Rd.Xi,Rd.Xy,Rd.wp_seq,Rd.wp_ret] at h
 have hmu:=hc.mu
 refine Xa Xb [] Tryz.func131 rfl (by decide) ?_
 repeat' ((conv=>whnf);first|(with_reducible first|exact Wa|exact Wb|exact Wc|refine Wd (by kernel_rfl) ?_|refine We ?_ ?_ ?_|refine W8 (by decide +kernel) ?_ ?_ ?_|refine W0 (by decide +kernel) ?_ ?_ ?_|refine W9 ?_ ?_ ?_|refine Yd0 ?_|(refine Yd1 ?_ ?_<;>intro e h)|(refine Yd2 ?_ ?_<;>intro _)|refine Wl (fun _=>?_)|refine Wm (by assumption) (by omega) ?_|refine Wn (by omega) (by omega) (fun _ _ _=>?_)|refine Wq (by omega) (by omega) ?_|refine Wx (fun _=>?_) ?_|refine Wy (fun _=>?_) ?_|refine Wz (fun _=>?_)|refine WA (fun _=>?_)|refine WB (by assumption) (by omega) ?_|refine WC (by omega) (by omega) (fun _ _=>?_)|refine WD (by omega) (by omega) (fun _ _=>?_))|refine Qz hc (by assumption) (fun st1 hc=>?_)|refine Zz hc (by assumption) (fun st1 hc=>?_)|refine ZH hc h (fun st1 hc e h=>?_) (fun st1 hc e h=>?_)|refine take_at hc h (by assumption) (by decide) (fun s1 st1 hz hm hc h=>?_)|refine XD hc h (by first|exact Xw (by assumption)|exact XJ (by assumption)|omega) (fun s1 st1 hz hm hc h=>?_)|refine XC.go hc h (fun n s1 st1 hr hm hc h=>?_) (fun e s1 st1 hc h=>?_)|refine XM.go hc h (fun n s1 st1 hr hm hc h=>?_) (fun e s1 st1 hc h=>?_)|refine Jk hc h (fun e s1 st1 hc h=>?_)|exact Yr0|refine XF ?_|refine XG ?_|refine XE ?_|refine XH ?_|refine XI ?_|(refine Yr2 ?_;intro own1 st1 hc)|refine Zl (fun _=>?_)|refine Xf (fun e1=>?_)|exact Yr1|refine RdC.go he hc h (fun n s1 st1 hr hm hc h=>?_) (fun e s1 st1 hc h=>?_)|refine Cx.app2 (l:=[]) (hc.push []) (Nat.le_of_ble_eq_true rfl) (fun own1 st1 hc=>?_)|refine Xk [(0,true),(1,true),(2,true),(4,true),(3,false),(5,false),(6,true),(7,false),(8,true)] [] (by decide +kernel) ?_|refine Xk [(0,true),(1,true),(2,true),(4,true),(3,false),(5,false),(6,true),(7,false),(8,true),(9,false),(10,true)] [] (by decide +kernel) ?_|with_reducible refine WF ?_)
 ·refine Qs (fun l own=>[(5,.slice 6 (l.map encN) own)]) (fun _ _=>[]) [1,2,4] [0,1] (fun l own=>(own,l)::rows) (fun l=>l.length) _ hc h (by simp only [List.length_append,List.length_cons,List.length_nil];omega) Yl ?_
  intro l s1 st1 own1 hc h hl hm1
  have hl2:l.length+1≤1000000000:=by omega
  simp only [guardB,guardS,Rd.Xi,Rd.Xy,Rd.wp_seq,Rd.wp_ret,Rd.XT] at h
  clear hmu
  have hmu:=hc.mu
  by_cases hn:l=[]
  ·subst hn
   rw [if_pos (show ((([]:List Nd).length:Int)==0)=true from rfl)] at h
   repeat' ((conv=>whnf);first|(with_reducible first|exact Wa|exact Wb|exact Wc|refine Wd (by kernel_rfl) ?_|refine We ?_ ?_ ?_|refine W8 (by decide +kernel) ?_ ?_ ?_|refine W0 (by decide +kernel) ?_ ?_ ?_|refine W9 ?_ ?_ ?_|refine Yd0 ?_|(refine Yd1 ?_ ?_<;>intro e h)|(refine Yd2 ?_ ?_<;>intro _)|refine Wl (fun _=>?_)|refine Wm (by assumption) (by omega) ?_|refine Wn (by omega) (by omega) (fun _ _ _=>?_)|refine Wq (by omega) (by omega) ?_|refine Wx (fun _=>?_) ?_|refine Wy (fun _=>?_) ?_|refine Wz (fun _=>?_)|refine WA (fun _=>?_)|refine WB (by assumption) (by omega) ?_|refine WC (by omega) (by omega) (fun _ _=>?_)|refine WD (by omega) (by omega) (fun _ _=>?_))|refine Qz hc (by assumption) (fun st1 hc=>?_)|refine Zz hc (by assumption) (fun st1 hc=>?_)|refine ZH hc h (fun st1 hc e h=>?_) (fun st1 hc e h=>?_)|refine take_at hc h (by assumption) (by decide) (fun s1 st1 hz hm hc h=>?_)|refine XD hc h (by first|exact Xw (by assumption)|exact XJ (by assumption)|omega) (fun s1 st1 hz hm hc h=>?_)|refine XC.go hc h (fun n s1 st1 hr hm hc h=>?_) (fun e s1 st1 hc h=>?_)|refine XM.go hc h (fun n s1 st1 hr hm hc h=>?_) (fun e s1 st1 hc h=>?_)|refine Jk hc h (fun e s1 st1 hc h=>?_)|exact Yr0|refine XF ?_|refine XG ?_|refine XE ?_|refine XH ?_|refine XI ?_|(refine Yr2 ?_;intro own1 st1 hc)|refine Zl (fun _=>?_)|refine Xf (fun e1=>?_)|exact Yr1|refine Vz hs hc h (fun g own2 s1 st1 hg hm hc h=>?_) (fun e s1 st1 hc h=>?_)|refine RdC.go he hc h (fun n s1 st1 hr hm hc h=>?_) (fun e s1 st1 hc h=>?_)|refine RdC.go hL.decls hc h (fun n s1 st1 hr hm hc h=>?_) (fun e s1 st1 hc h=>?_)|exact absurd rfl (by assumption)|refine Xbt hx (by omega) ?_|refine hc.app1 (by simp only [List.length_append,List.length_cons,List.length_nil]<;>omega) (fun own1 st1 hc=>?_)|refine Cx.app1 (x:=nodeK 30 _) hc.drop hl2 (fun own1 st1 hc=>?_)|refine Xk [(0,true),(1,true),(2,true),(4,true),(3,false),(5,false),(6,true),(7,false),(8,true)] [] (by decide +kernel) ?_|refine Xk [(0,true),(1,true),(2,true),(4,true),(3,false),(5,false),(6,true),(7,false),(8,true),(9,false),(10,true)] [] (by decide +kernel) ?_|with_reducible refine WF ?_)
   all_goals conv=>whnf
  ·obtain ⟨x,hx⟩:∃x,l[((0:Int)).toNat]? =some x:=by
    cases l with
    |nil=>exact absurd rfl hn
    |cons x l=>exact ⟨x,rfl⟩
   have hz:((l.length:Int)==0)=false:=beq_eq_false_iff_ne.2 fun e=>hn (List.length_eq_zero_iff.1 (by omega))
   have hd:l.headD nd0=x:=by
    cases l with
    |nil=>exact absurd rfl hn
    |cons y l=>cases hx;rfl
   rw [if_neg (by rw [hz];decide),hd] at h
   repeat' ((conv=>whnf);first|(with_reducible first|exact Wa|exact Wb|exact Wc|refine Wd (by kernel_rfl) ?_|refine We ?_ ?_ ?_|refine W8 (by decide +kernel) ?_ ?_ ?_|refine W0 (by decide +kernel) ?_ ?_ ?_|refine W9 ?_ ?_ ?_|refine Yd0 ?_|(refine Yd1 ?_ ?_<;>intro e h)|(refine Yd2 ?_ ?_<;>intro _)|refine Wl (fun _=>?_)|refine Wm (by assumption) (by omega) ?_|refine Wn (by omega) (by omega) (fun _ _ _=>?_)|refine Wq (by omega) (by omega) ?_|refine Wx (fun _=>?_) ?_|refine Wy (fun _=>?_) ?_|refine Wz (fun _=>?_)|refine WA (fun _=>?_)|refine WB (by assumption) (by omega) ?_|refine WC (by omega) (by omega) (fun _ _=>?_)|refine WD (by omega) (by omega) (fun _ _=>?_))|refine Qz hc (by assumption) (fun st1 hc=>?_)|refine Zz hc (by assumption) (fun st1 hc=>?_)|refine ZH hc h (fun st1 hc e h=>?_) (fun st1 hc e h=>?_)|refine take_at hc h (by assumption) (by decide) (fun s1 st1 hz hm hc h=>?_)|refine XD hc h (by first|exact Xw (by assumption)|exact XJ (by assumption)|omega) (fun s1 st1 hz hm hc h=>?_)|refine XC.go hc h (fun n s1 st1 hr hm hc h=>?_) (fun e s1 st1 hc h=>?_)|refine XM.go hc h (fun n s1 st1 hr hm hc h=>?_) (fun e s1 st1 hc h=>?_)|refine Jk hc h (fun e s1 st1 hc h=>?_)|exact Yr0|refine XF ?_|refine XG ?_|refine XE ?_|refine XH ?_|refine XI ?_|(refine Yr2 ?_;intro own1 st1 hc)|refine Zl (fun _=>?_)|refine Xf (fun e1=>?_)|exact Yr1|refine Vz hs hc h (fun g own2 s1 st1 hg hm hc h=>?_) (fun e s1 st1 hc h=>?_)|refine RdC.go he hc h (fun n s1 st1 hr hm hc h=>?_) (fun e s1 st1 hc h=>?_)|refine RdC.go hL.decls hc h (fun n s1 st1 hr hm hc h=>?_) (fun e s1 st1 hc h=>?_)|exact absurd rfl (by assumption)|refine Xbt hx (by omega) ?_|refine hc.app1 (by simp only [List.length_append,List.length_cons,List.length_nil]<;>omega) (fun own1 st1 hc=>?_)|refine Cx.app1 (x:=nodeK 30 _) hc.drop hl2 (fun own1 st1 hc=>?_)|refine Xk [(0,true),(1,true),(2,true),(4,true),(3,false),(5,false),(6,true),(7,false),(8,true)] [] (by decide +kernel) ?_|refine Xk [(0,true),(1,true),(2,true),(4,true),(3,false),(5,false),(6,true),(7,false),(8,true),(9,false),(10,true)] [] (by decide +kernel) ?_|with_reducible refine WF ?_)
   all_goals conv=>whnf
 ·refine Qs (fun l own=>[(5,.slice 6 (l.map encN) own)]) (fun _ _=>[]) [1,2,4] [0,1] (fun l own=>(own,l)::rows) (fun l=>l.length) .full (hc.push []) h (by simp only [List.length_append,List.length_cons,List.length_nil];omega) Yl ?_
  intro l s1 st1 own1 hc h hl hm1
  have hl2:l.length+1≤1000000000:=by omega
  simp only [guardB,guardS,Rd.Xi,Rd.Xy,Rd.wp_seq,Rd.wp_ret,Rd.XT] at h
  clear hmu
  have hmu:=hc.mu
  by_cases hn:l=[]
  ·subst hn
   rw [if_pos (show ((([]:List Nd).length:Int)==0)=true from rfl)] at h
   repeat' ((conv=>whnf);first|(with_reducible first|exact Wa|exact Wb|exact Wc|refine Wd (by kernel_rfl) ?_|refine We ?_ ?_ ?_|refine W8 (by decide +kernel) ?_ ?_ ?_|refine W0 (by decide +kernel) ?_ ?_ ?_|refine W9 ?_ ?_ ?_|refine Yd0 ?_|(refine Yd1 ?_ ?_<;>intro e h)|(refine Yd2 ?_ ?_<;>intro _)|refine Wl (fun _=>?_)|refine Wm (by assumption) (by omega) ?_|refine Wn (by omega) (by omega) (fun _ _ _=>?_)|refine Wq (by omega) (by omega) ?_|refine Wx (fun _=>?_) ?_|refine Wy (fun _=>?_) ?_|refine Wz (fun _=>?_)|refine WA (fun _=>?_)|refine WB (by assumption) (by omega) ?_|refine WC (by omega) (by omega) (fun _ _=>?_)|refine WD (by omega) (by omega) (fun _ _=>?_))|refine Qz hc (by assumption) (fun st1 hc=>?_)|refine Zz hc (by assumption) (fun st1 hc=>?_)|refine ZH hc h (fun st1 hc e h=>?_) (fun st1 hc e h=>?_)|refine take_at hc h (by assumption) (by decide) (fun s1 st1 hz hm hc h=>?_)|refine XD hc h (by first|exact Xw (by assumption)|exact XJ (by assumption)|omega) (fun s1 st1 hz hm hc h=>?_)|refine XC.go hc h (fun n s1 st1 hr hm hc h=>?_) (fun e s1 st1 hc h=>?_)|refine XM.go hc h (fun n s1 st1 hr hm hc h=>?_) (fun e s1 st1 hc h=>?_)|refine Jk hc h (fun e s1 st1 hc h=>?_)|exact Yr0|refine XF ?_|refine XG ?_|refine XE ?_|refine XH ?_|refine XI ?_|(refine Yr2 ?_;intro own1 st1 hc)|refine Zl (fun _=>?_)|refine Xf (fun e1=>?_)|exact Yr1|refine Vz hs hc h (fun g own2 s1 st1 hg hm hc h=>?_) (fun e s1 st1 hc h=>?_)|refine RdC.go he hc h (fun n s1 st1 hr hm hc h=>?_) (fun e s1 st1 hc h=>?_)|refine RdC.go hL.decls hc h (fun n s1 st1 hr hm hc h=>?_) (fun e s1 st1 hc h=>?_)|exact absurd rfl (by assumption)|refine Xbt hx (by omega) ?_|refine hc.app1 (by simp only [List.length_append,List.length_cons,List.length_nil]<;>omega) (fun own1 st1 hc=>?_)|refine Cx.app1 (x:=nodeK 30 _) hc.drop hl2 (fun own1 st1 hc=>?_)|refine Xk [(0,true),(1,true),(2,true),(4,true),(3,false),(5,false),(6,true),(7,false),(8,true)] [] (by decide +kernel) ?_|refine Xk [(0,true),(1,true),(2,true),(4,true),(3,false),(5,false),(6,true),(7,false),(8,true),(9,false),(10,true)] [] (by decide +kernel) ?_|with_reducible refine WF ?_)
   all_goals conv=>whnf
  ·obtain ⟨x,hx⟩:∃x,l[((0:Int)).toNat]? =some x:=by
    cases l with
    |nil=>exact absurd rfl hn
    |cons x l=>exact ⟨x,rfl⟩
   have hz:((l.length:Int)==0)=false:=beq_eq_false_iff_ne.2 fun e=>hn (List.length_eq_zero_iff.1 (by omega))
   have hd:l.headD nd0=x:=by
    cases l with
    |nil=>exact absurd rfl hn
    |cons y l=>cases hx;rfl
   rw [if_neg (by rw [hz];decide),hd] at h
   repeat' ((conv=>whnf);first|(with_reducible first|exact Wa|exact Wb|exact Wc|refine Wd (by kernel_rfl) ?_|refine We ?_ ?_ ?_|refine W8 (by decide +kernel) ?_ ?_ ?_|refine W0 (by decide +kernel) ?_ ?_ ?_|refine W9 ?_ ?_ ?_|refine Yd0 ?_|(refine Yd1 ?_ ?_<;>intro e h)|(refine Yd2 ?_ ?_<;>intro _)|refine Wl (fun _=>?_)|refine Wm (by assumption) (by omega) ?_|refine Wn (by omega) (by omega) (fun _ _ _=>?_)|refine Wq (by omega) (by omega) ?_|refine Wx (fun _=>?_) ?_|refine Wy (fun _=>?_) ?_|refine Wz (fun _=>?_)|refine WA (fun _=>?_)|refine WB (by assumption) (by omega) ?_|refine WC (by omega) (by omega) (fun _ _=>?_)|refine WD (by omega) (by omega) (fun _ _=>?_))|refine Qz hc (by assumption) (fun st1 hc=>?_)|refine Zz hc (by assumption) (fun st1 hc=>?_)|refine ZH hc h (fun st1 hc e h=>?_) (fun st1 hc e h=>?_)|refine take_at hc h (by assumption) (by decide) (fun s1 st1 hz hm hc h=>?_)|refine XD hc h (by first|exact Xw (by assumption)|exact XJ (by assumption)|omega) (fun s1 st1 hz hm hc h=>?_)|refine XC.go hc h (fun n s1 st1 hr hm hc h=>?_) (fun e s1 st1 hc h=>?_)|refine XM.go hc h (fun n s1 st1 hr hm hc h=>?_) (fun e s1 st1 hc h=>?_)|refine Jk hc h (fun e s1 st1 hc h=>?_)|exact Yr0|refine XF ?_|refine XG ?_|refine XE ?_|refine XH ?_|refine XI ?_|(refine Yr2 ?_;intro own1 st1 hc)|refine Zl (fun _=>?_)|refine Xf (fun e1=>?_)|exact Yr1|refine Vz hs hc h (fun g own2 s1 st1 hg hm hc h=>?_) (fun e s1 st1 hc h=>?_)|refine RdC.go he hc h (fun n s1 st1 hr hm hc h=>?_) (fun e s1 st1 hc h=>?_)|refine RdC.go hL.decls hc h (fun n s1 st1 hr hm hc h=>?_) (fun e s1 st1 hc h=>?_)|exact absurd rfl (by assumption)|refine Xbt hx (by omega) ?_|refine hc.app1 (by simp only [List.length_append,List.length_cons,List.length_nil]<;>omega) (fun own1 st1 hc=>?_)|refine Cx.app1 (x:=nodeK 30 _) hc.drop hl2 (fun own1 st1 hc=>?_)|refine Xk [(0,true),(1,true),(2,true),(4,true),(3,false),(5,false),(6,true),(7,false),(8,true)] [] (by decide +kernel) ?_|refine Xk [(0,true),(1,true),(2,true),(4,true),(3,false),(5,false),(6,true),(7,false),(8,true),(9,false),(10,true)] [] (by decide +kernel) ?_|with_reducible refine WF ?_)
   all_goals conv=>whnf
end
section
variable {st0 st:St} {b d:Nat} {s:Sta} {rows:List (Own×List Nd)} {K:Res→St→Prop} {L:Low}
attribute [local irreducible] Go.Aw.appendTo
theorem alt_rd (hL:LowC d L) {ops exp stmt:Rd Nd} (ho:RdC enc 130 (fun b=>[pv b d]) ops) (he:RdC enc 80 (fun b=>[pv b d]) exp) (hs:RdC enc 60 (fun b=>[pv b d]) stmt):
 RdC enc 69 (fun b=>[pv b d]) (altR L ops exp stmt):=by
 refine ⟨fun {st0 b s st rows K} hc h=>?_⟩
 simp only [altR,Rd.Xy,Rd.wp_seq,Rd.wp_ret,Rd.Zf] at h
 refine Xa Xb [] Tryz.func69 rfl (by decide) ?_
 repeat' ((conv=>whnf);first|(with_reducible first|exact Wa|exact Wb|exact Wc|refine Wd (by kernel_rfl) ?_|refine We ?_ ?_ ?_|refine W8 (by decide +kernel) ?_ ?_ ?_|refine W0 (by decide +kernel) ?_ ?_ ?_|refine W9 ?_ ?_ ?_|refine Yd0 ?_|(refine Yd1 ?_ ?_<;>intro e h)|(refine Yd2 ?_ ?_<;>intro _))|exact Yr0|refine XF ?_|refine XG ?_|refine XE ?_|refine XH ?_|refine XI ?_|refine Xf (fun e1=>?_)|exact Yr1|refine RdC.go ho hc h (fun n s1 st1 hr hm hc h=>?_) (fun e s1 st1 hc h=>?_)|refine Xd8 ?_|refine Xel ?_|refine Xek ?_|refine RdC.go (Xm2 hL he hs) hc h (fun n s1 st1 hr hm hc h=>?_) (fun e s1 st1 hc h=>?_)|refine Xk [(0,true),(1,true),(2,false),(3,false)] [] (by decide +kernel) ?_|refine Xk [(0,true),(1,true),(2,false),(3,true),(4,false),(5,false)] [1] (by decide +kernel) ?_|with_reducible refine WF ?_)
end
theorem Rd.Xmu {σ β:Type} {body:σ→Rd (Sum σ β)} {P:β→Prop} (h1:∀x s y s',(body x).run s=.inr (.inr y,s')→P y) (x:σ) (s:Sta):∀y s',(Rd.loop body x).run s=.inr (y,s')→P y:=by
 show ∀y s',Rd.iter body x s=.inr (y,s')→_
 fun_induction Rd.iter body x s with
 |case1 x s e h=>intro y s' h';cases h'
 |case2 x s y s1 h=>intro y s' h';cases h';exact h1 _ _ _ _ h
 |case3 x s x' s1 h hlt ih=>exact ih
 |case4 x s x' s1 h hlt=>intro y s' h';cases h'
theorem Xm8 {opd:Rd Nd} {br:Bool} {s s':Sta} {p:List Nd×Bool} (h:(erowR opd br).run s=.inr (p,s')):∃x,p.1[((p.1.length:Nat) - 1:Int).toNat]? =some x∧p.1.getLastD nd0=x∧1≤p.1.length:=by
 have:∃l x,p.1=l++[x]:=by
  refine Rd.Xmu (body:=rowB opd br) (P:=fun p=>∃l x,p.1=l++[x]) (fun x s y s' h=>?_) _ _ _ _ h
  unfold rowB at h
  obtain ⟨l,s1,_,h⟩:=XW h
  obtain ⟨n,s2,_,h⟩:=XW h
  replace h:(if infixF (nextM s2).1=true then .seq operR fun o=>
   if br=true then .look fun s=>if isF s 15 [41]=true then .ret (.inr (l++[n]++[o],true)) else .ret (.inl (l++[n]++[o]))
   else .ret (.inl (l++[n]++[o]))
   else .ret (.inr (l++[n],false)):Rd (Sum (List Nd) (List Nd×Bool))).run s2=.inr (.inr y,s'):=h
  split at h
  ·obtain ⟨o,s3,_,h⟩:=XW h
   split at h
   ·replace h:(if isF s3 15 [41]=true then .ret (.inr (l++[n]++[o],true)) else .ret (.inl (l++[n]++[o])):Rd (Sum (List Nd) (List Nd×Bool))).run s3=.inr (.inr y,s'):=h
    split at h
    ·cases h;exact ⟨_,_,rfl⟩
    ·cases h
   ·cases h
  ·cases h;exact ⟨_,_,rfl⟩
 obtain ⟨l,x,e⟩:=this
 refine ⟨x,?_,?_,?_⟩
 ·rw [e];simp only [List.length_append,List.length_cons,List.length_nil]
  rw [show (((l.length+(0+1):Nat):Int) - 1).toNat=l.length by omega]
  simp
 ·rw [e];simp
 ·rw [e];simp
theorem XhB {l:List Nd} {K:List (List V)→Prop} (hn:1≤l.length) (k:K ((l.take (l.length - 1)).map encN)):
 ((0:Int)≤0∧(0:Int)≤(l.length:Int) - 1∧(l.length:Int) - 1=(l.length:Int) - 1∧(l.length:Int) - 1≤((l.map encN).length:Int))∧∀es',es'=List.drop (Int.toNat 0) (List.take ((l.length:Int) - 1).toNat (l.map encN))→K es':=by
 refine ⟨⟨by omega,by omega,rfl,by rw [List.length_map];omega⟩,fun es' e=>?_⟩
 rw [e,show ((l.length:Int) - 1).toNat=l.length - 1 by omega,←List.map_take]
 exact k
section
variable {st0 st:St} {b d:Nat} {s:Sta} {rows:List (Own×List Nd)} {K:Res→St→Prop} {L:Low}
attribute [local irreducible] Go.Aw.appendTo
set_option maxHeartbeats 4000000 in
theorem XdL {opd full exp:Rd Nd} {o:Nd} (ho:RdC enc 240 (fun b=>[pv b d]) opd) (hf:RdC enc 203 (fun b=>[pv b d]) full) (he:RdC enc 80 (fun b=>[pv b d]) exp):
 RdC enc 340 (fun b=>[pv b d,enc o]) (bracketedR opd full exp o):=by
 refine ⟨fun {st0 b s st rows K} hc h=>?_⟩
 simp only [bracketedR,Rd.Xy,Rd.wp_seq,Rd.wp_ret,Rd.Zf] at h
 have hmu:=hc.mu
 refine XV Xb [] Tryz.func340 rfl (by decide) rfl ?_
 refine Xn (Xl Xb ?_)
 repeat' ((conv=>whnf);first|(with_reducible first|exact Wa|exact Wb|exact Wc|refine Wd (by kernel_rfl) ?_|refine We ?_ ?_ ?_|refine W8 (by decide +kernel) ?_ ?_ ?_|refine W0 (by decide +kernel) ?_ ?_ ?_|refine W9 ?_ ?_ ?_|refine Yd0 ?_|(refine Yd1 ?_ ?_<;>intro e h)|(refine Yd2 ?_ ?_<;>intro _)|refine Wl (fun _=>?_)|refine Wm (by assumption) (by omega) ?_|refine Wn (by omega) (by omega) (fun _ _ _=>?_)|refine Wo (by omega) (by omega) ?_|refine Wp (by omega) (by omega) (by omega) ?_|refine Wq (by omega) (by omega) ?_|refine Wz (fun _=>?_)|refine WA (fun _=>?_)|refine WB (by assumption) (by omega) ?_|refine WC (by omega) (by omega) (fun _ _=>?_)|refine WD (by omega) (by omega) (fun _ _=>?_)|refine WE (by omega) (by omega) (by omega) ?_)|with_reducible refine WF ?_)
 refine Xn (Xl Xb ?_)
 repeat' ((conv=>whnf);first|(with_reducible first|exact Wa|exact Wb|exact Wc|refine Wd (by kernel_rfl) ?_|refine We ?_ ?_ ?_|refine W8 (by decide +kernel) ?_ ?_ ?_|refine W0 (by decide +kernel) ?_ ?_ ?_|refine W9 ?_ ?_ ?_|refine Yd0 ?_|(refine Yd1 ?_ ?_<;>intro e h)|(refine Yd2 ?_ ?_<;>intro _)|refine Wl (fun _=>?_)|refine Wm (by assumption) (by omega) ?_|refine Wn (by omega) (by omega) (fun _ _ _=>?_)|refine Wo (by omega) (by omega) ?_|refine Wp (by omega) (by omega) (by omega) ?_|refine Wq (by omega) (by omega) ?_|refine Wz (fun _=>?_)|refine WA (fun _=>?_)|refine WB (by assumption) (by omega) ?_|refine WC (by omega) (by omega) (fun _ _=>?_)|refine WD (by omega) (by omega) (fun _ _=>?_)|refine WE (by omega) (by omega) (by omega) ?_)|refine RdL.go (Xm9 ho) hc h (fun p own1 s1 st1 hr hm hc h=>?_) (fun e s1 st1 hc h=>?_)|exact Qx hc h|with_reducible refine WF ?_)
 all_goals obtain ⟨x,hx,hd,hn⟩:=Xm8 hr
 all_goals try rw [hd] at h
 all_goals refine Xl Xb ?_
 all_goals (repeat' ((conv=>whnf);first|(with_reducible first|exact Wa|exact Wb|exact Wc|refine Wd (by kernel_rfl) ?_|refine We ?_ ?_ ?_|refine W8 (by decide +kernel) ?_ ?_ ?_|refine W0 (by decide +kernel) ?_ ?_ ?_|refine W9 ?_ ?_ ?_|refine Yd0 ?_|(refine Yd1 ?_ ?_<;>intro e h)|(refine Yd2 ?_ ?_<;>intro _)|refine Wl (fun _=>?_)|refine Wm (by assumption) (by omega) ?_|refine Wn (by omega) (by omega) (fun _ _ _=>?_)|refine Wo (by omega) (by omega) ?_|refine Wp (by omega) (by omega) (by omega) ?_|refine Wq (by omega) (by omega) ?_|refine Wz (fun _=>?_)|refine WA (fun _=>?_)|refine WB (by assumption) (by omega) ?_|refine WC (by omega) (by omega) (fun _ _=>?_)|refine WD (by omega) (by omega) (fun _ _=>?_)|refine WE (by omega) (by omega) (by omega) ?_)|refine Qb hc (by assumption) (fun st1 hc=>?_)|refine Qr hc (by assumption) (fun st1 hc=>?_)|refine Qw hc h (fun st1 hc e h=>?_) (fun st1 hc e h=>?_)|refine take_at hc h (by assumption) (by decide) (fun s1 st1 hz hm hc h=>?_)|refine XD hc h (by first|exact Xw (by assumption)|exact XJ (by assumption)|omega) (fun s1 st1 hz hm hc h=>?_)|refine XC.go hc h (fun n s1 st1 hr hm hc h=>?_) (fun e s1 st1 hc h=>?_)|refine XM.go hc h (fun n s1 st1 hr hm hc h=>?_) (fun e s1 st1 hc h=>?_)|exact Yr0|refine XF ?_|refine XG ?_|refine XE ?_|refine XH ?_|refine XI ?_|refine XbT ?_|(refine Yr2 ?_;intro own1 st1 hc)|refine Zl (fun _=>?_)|refine Xf (fun e1=>?_)|exact Yr1|refine XhB hn ?_|refine Xbt hx (by omega) ?_|refine RdC.go (Xgu hf) hc h (fun n s1 st1 hr hm hc h=>?_) (fun e s1 st1 hc h=>?_)|refine Xk [(0,true),(1,true),(2,true),(3,true),(4,true),(6,true),(7,true),(8,true),(9,true),(10,true),(11,true),(5,false),(12,false),(13,true),(14,false),(15,false)] [2] (by decide +kernel) ?_|refine Xk [(0,true),(1,true),(2,true),(3,false),(4,false),(5,true),(6,true)] [] (by decide +kernel) ?_|with_reducible refine WF ?_))
 all_goals refine Qs (fun (q:Int×List Nd) own=>[(9,.int .i64 q.1),(8,.slice 6 (q.2.map encN) own)]) (fun _ _=>[]) [2,4] [0,2] (fun q own=>(own,q.2)::rows) (fun q=>q.2.length) .full (hc.drop.push _) h (by show 2+_≤_;omega) Yl ?_
 all_goals intro q s1 st1 own1 hc h hl hm1
 all_goals simp only [tupleB,Rd.Xi,Rd.Xy,Rd.wp_seq,Rd.wp_ret,Rd.XT] at h
 all_goals obtain ⟨k,l⟩:=q
 all_goals dsimp only at hc h hl
 all_goals (repeat' ((conv=>whnf);first|(with_reducible first|exact Wa|exact Wb|exact Wc|refine Wd (by kernel_rfl) ?_|refine We ?_ ?_ ?_|refine W8 (by decide +kernel) ?_ ?_ ?_|refine W0 (by decide +kernel) ?_ ?_ ?_|refine W9 ?_ ?_ ?_|refine Yd0 ?_|(refine Yd1 ?_ ?_<;>intro e h)|(refine Yd2 ?_ ?_<;>intro _)|refine Wl (fun _=>?_)|refine Wm (by assumption) (by omega) ?_|refine Wn (by omega) (by omega) (fun _ _ _=>?_)|refine Wo (by omega) (by omega) ?_|refine Wp (by omega) (by omega) (by omega) ?_|refine Wq (by omega) (by omega) ?_|refine Wz (fun _=>?_)|refine WA (fun _=>?_)|refine WB (by assumption) (by omega) ?_|refine WC (by omega) (by omega) (fun _ _=>?_)|refine WD (by omega) (by omega) (fun _ _=>?_)|refine WE (by omega) (by omega) (by omega) ?_)|refine Qb hc (by assumption) (fun st1 hc=>?_)|refine Qr hc (by assumption) (fun st1 hc=>?_)|refine Qw hc h (fun st1 hc e h=>?_) (fun st1 hc e h=>?_)|refine take_at hc h (by assumption) (by decide) (fun s1 st1 hz hm hc h=>?_)|refine XD hc h (by first|exact Xw (by assumption)|exact XJ (by assumption)|omega) (fun s1 st1 hz hm hc h=>?_)|refine XC.go hc h (fun n s1 st1 hr hm hc h=>?_) (fun e s1 st1 hc h=>?_)|refine XM.go hc h (fun n s1 st1 hr hm hc h=>?_) (fun e s1 st1 hc h=>?_)|exact Yr0|refine XF ?_|refine XG ?_|refine XE ?_|refine XH ?_|refine XI ?_|refine XbT ?_|(refine Yr2 ?_;intro own1 st1 hc)|refine Zl (fun _=>?_)|refine Xf (fun e1=>?_)|exact Yr1|refine RdC.go he hc h (fun n s1 st1 hr hm hc h=>?_) (fun e s1 st1 hc h=>?_)|refine Xk [(0,true),(1,true),(2,true),(3,true),(4,true),(6,true),(7,true),(8,true),(9,true),(10,true),(11,true),(5,false),(12,false),(13,true),(14,false),(15,false)] [2] (by decide +kernel) ?_|refine Xk [(0,true),(1,true),(2,true),(3,false),(4,false),(5,true),(6,true)] [] (by decide +kernel) ?_|with_reducible refine WF ?_))
 all_goals conv=>whnf
end
section
variable {st0 st:St} {b d c:Nat} {s:Sta} {rows:List (Own×List Nd)} {K:Res→St→Prop} {L:Low} {o:Nd} {A:Rd Nd}
theorem Xm3 (hb:RdC enc 340 (fun b=>[pv b d,enc o]) A) (hx:st.box c=some (encN o)) (hc:Cx st0 b s st rows)
 (h:Rd.wp A s (fun v s'=>∀st',Cx st0 b s' st' rows→K (.ret (enc v)) st') (fun e s'=>∀st',Cy st0 b s' st' rows→K (.pan (fault e.1)) st')):PC 339 [pv b d,.ptr c 0] st K:=by
 refine Xa Xb [] Tryz.func339 rfl (by decide) ?_
 repeat' ((conv=>whnf);first|(with_reducible first|refine Yd0 ?_|(refine Yd1 ?_ ?_<;>intro e h)|(refine Yd2 ?_ ?_<;>intro _))|refine Xm hx ?_|refine RdC.go hb hc h (fun n s1 st1 hr hm hc h=>?_) (fun e s1 st1 hc h=>?_)|exact Yr0|refine Xf (fun e1=>?_)|exact Yr1|fail)
theorem Xku (hb:RdC enc 342 (fun b=>[pv b d,enc o]) A) (hx:st.box c=some (encN o)) (hc:Cx st0 b s st rows)
 (h:Rd.wp A s (fun v s'=>∀st',Cx st0 b s' st' rows→K (.ret (enc v)) st') (fun e s'=>∀st',Cy st0 b s' st' rows→K (.pan (fault e.1)) st')):PC 341 [pv b d,.ptr c 0] st K:=by
 refine Xa Xb [] Tryz.func341 rfl (by decide) ?_
 repeat' ((conv=>whnf);first|(with_reducible first|refine Yd0 ?_|(refine Yd1 ?_ ?_<;>intro e h)|(refine Yd2 ?_ ?_<;>intro _))|refine Xm hx ?_|refine RdC.go hb hc h (fun n s1 st1 hr hm hc h=>?_) (fun e s1 st1 hc h=>?_)|exact Yr0|refine Xf (fun e1=>?_)|exact Yr1|fail)
end
section
variable {st0 st:St} {b d:Nat} {s:Sta} {rows:List (Own×List Nd)} {K:Res→St→Prop} {L:Low}
attribute [local irreducible] Go.Aw.appendTo
theorem Xg4:RdC enc 197 (fun b=>[pv b d]) takeR:=by
 refine ⟨fun {st0 b s st rows K} hc h=>?_⟩
 refine Xa Xb [] Tryz.func197 rfl (by decide) ?_
 repeat' ((conv=>whnf);first|(with_reducible first|refine Yd0 ?_|(refine Yd1 ?_ ?_<;>intro e h)|(refine Yd2 ?_ ?_<;>intro _))|refine XC.go hc h (fun n s1 st1 hr hm hc h=>?_) (fun e s1 st1 hc h=>?_)|refine take_at hc h (by assumption) (by decide) (fun s1 st1 hz hm hc h=>?_)|refine XD hc h (by first|exact Xw (by assumption)|exact XJ (by assumption)|omega) (fun s1 st1 hz hm hc h=>?_)|refine XC.go hc h (fun n s1 st1 hr hm hc h=>?_) (fun e s1 st1 hc h=>?_)|exact Yr0|refine Xf (fun e1=>?_)|exact Yr1|fail)
theorem XmU {n x:Nd} (hx:n.kids[(Int.tdiv (n.kids.length:Int) 2).toNat]? =some x) (hx2:n.kids[n.kids.length / 2]? =some x) (h:K (.ret (.bool (plainN n))) st):PC 200 [enc n] st K:=by
 have e:plainN n= !(x.form==7||x.form==8||x.form==3||x.form==4):=by unfold plainN;rw [hx2]
 rw [e] at h
 refine Xa Xb [] Tryz.func200 rfl (by decide) ?_
 have h0:0≤Int.tdiv (n.kids.length:Int) 2:=Int.tdiv_nonneg (by omega) (by omega)
 repeat' ((conv=>whnf);first|(with_reducible first|refine Yd0 ?_|(refine Yd1 ?_ ?_<;>intro e h)|(refine Yd2 ?_ ?_<;>intro _)|refine Wl (fun _=>?_)|refine Wm (by assumption) (by omega) ?_|refine Wn (by omega) (by omega) (fun _ _ _=>?_)|refine Wq (by omega) (by omega) ?_|refine Wr (by decide) (by omega) (by omega) ?_|refine Ws (by decide) ?_|refine Wz (fun _=>?_)|refine WA (fun _=>?_)|refine WB (by assumption) (by omega) ?_|refine WC (by omega) (by omega) (fun _ _=>?_)|refine WD (by omega) (by omega) (fun _ _=>?_))|refine Wm hx h0 ?_)
 all_goals conv=>whnf
 all_goals (refine Xq h ?_;clear h;simp_all)
end
end Go.Proofs.YtkidoddkbhchkaaGreatDoor
namespace Go.Aw
open Go
theorem Xkc {P:Program} {f:FuncId} {s:List UInt8} {r:List V} {st:St} {R:Res→St→Prop} (hb:Plain P f) (h:s.length<4611686018427387904→PCalls P f (.str s::r) st R):PCalls P f (.str s::r) st R:=by
 refine ⟨?_,hb⟩
 intro I w cargs hs hargs
 have hl:s.length<4611686018427387904:=by
  have h2:=hargs
  simp only [RepL,Rep] at h2
  obtain ⟨c,rr,_,h2,_⟩:=h2
  exact h2.2
 exact (h hl).a I w cargs hs hargs
def isNumF (s:List UInt8) (k:Int):Bool:=(numF s).1==k&&(s.take (numF s).2==s)
theorem Xkz {s:List UInt8} {n:Nat} (h:n≤s.length):s.take n=s↔n=s.length:=by
 constructor
 ·intro e
  have:=congrArg List.length e
  rw [List.length_take] at this
  omega
 ·intro e;rw [e,List.take_length]
theorem Xag {s:List UInt8} {k:Int}:isNumF s k=true↔(numF s).1=k∧(numF s).2=s.length:=by
 unfold isNumF
 rw [Bool.and_eq_true,beq_iff_eq,beq_iff_eq,Xkz (Xeq s)]
theorem XkL {s:List UInt8} (h:isNumF s 11=true):rowN (prefF s).1 (s.drop (prefF s).2)=s.length - (prefF s).2∧(prefF s).2≤s.length:=by
 obtain ⟨h1,h2⟩:=Xag.1 h
 by_cases hb:(prefF s).1=10
 ·have hp:prefF s=(10,0):=by
   rcases GR s with e|⟨e,_⟩|⟨e,_⟩
   ·exact e
   ·rw [e] at hb;cases hb
   ·rw [e] at hb;cases hb
  rw [hp]
  refine ⟨?_,Nat.zero_le _⟩
  show rowN 10 (s.drop 0)=s.length - 0
  rw [List.drop_zero,Nat.sub_zero]
  by_cases h0:rowN 10 s=0
  ·rw [XmI hb h0] at h1;cases h1
  ·have e:=Xho (l:=s) hb rfl h0 rfl rfl
   rw [e] at h1 h2
   dsimp only at h1 h2
   split at h1
   ·cases h1
   ·omega
 ·have e:=Xhn (l:=s) hb
  have hp2:(prefF s).2=2:=by
   rcases GR s with e|⟨e,_⟩|⟨e,_⟩
   ·rw [e] at hb;exact absurd rfl hb
   ·rw [e]
   ·rw [e]
  rw [e] at h2
  dsimp only at h2
  rw [hp2]
  omega
theorem Xjq {c b:Int} (hb:b≤16) (h:¬digitF c b<0):0≤digitF c b∧digitF c b<b∧digitF c b≤15:=by
 unfold digitF at h ⊢
 dsimp only at h ⊢
 (repeat' split at h)<;>(repeat' split)<;>omega
end Go.Aw
namespace Go.Proofs.YtkidoddkbhchkaaGreatDoor
open Go Go.Aw
theorem Xgy {base:Int} {s:List UInt8} {pos c m:Nat} {v:Int} (h:pos<s.length) (hd:(c,m)=decR (s.drop pos)) (k:¬digitF (c:Int) base<0):
 m=1∧worthG base (s.drop pos) v=if (4611686018427387904 - digitF (c:Int) base) / base<v then (0,3) else worthG base (s.drop (pos+1)) (v*base+digitF (c:Int) base):=by
 obtain ⟨a,ha⟩:∃a,s[pos]? =some a:=⟨_,List.getElem?_eq_getElem h⟩
 have e:=drop_at ha
 have hlo:a.toNat<128:=by
  apply Classical.byContradiction
  intro hn
  have:=Xa4 (r:=s.drop (pos+1)) hn
  rw [e] at hd
  rw [←hd] at this
  exact k (JR (by dsimp only at this;omega))
 rw [e,QC hlo] at hd
 obtain ⟨rfl,rfl⟩:=Prod.mk.inj hd
 refine ⟨rfl,?_⟩
 rw [e,worthG]
theorem Xnj {s t:List UInt8} {n:Nat} {K:List UInt8→Prop} (ht:s.drop n=t) (h0:0≤(n:Int)) (h1:(n:Int)≤s.length) (k:K t):
 (0≤(n:Int)∧(n:Int)≤(s.length:Int)∧(s.length:Int)≤s.length)∧∀s',s'=(s.take (s.length:Int).toNat).drop (n:Int).toNat→K s':=WN h0 h1 (by subst ht;exact k)
section
variable {st:St} {R:Res→St→Prop}
theorem nis_c {s:List UInt8} {k:Int} (hl:s.length≤4611686018427387903) (h:R (.ret (.bool (isNumF s k))) st):PC 299 [.str s,.int .i64 k] st R:=by
 refine Xa Xb [] Tryz.func299 rfl (by decide) ?_
 repeat' ((conv=>whnf);first|(with_reducible first|refine Yd0 ?_|(refine Yd1 ?_ ?_<;>intro e h)|(refine Yd2 ?_ ?_<;>intro _))|refine XiD hl ?_)
 all_goals conv=>whnf
 all_goals (refine Xq h ?_;clear h;simp_all [isNumF])
theorem nis_k {s:List UInt8} {k:Int} {b:Bool} (e:isNumF s k=b) (hl:s.length≤4611686018427387903) (h:R (.ret (.bool b)) st):PC 299 [.str s,.int .i64 k] st R:=nis_c hl (by rw [e];exact h)
theorem digit_w {t:List UInt8} {pos c m:Nat} {b:Int} (hb:b≤16) (hl:pos<t.length) (hd:(c,m)=decR (t.drop pos)) (hr:rowN b (t.drop pos)=t.length - pos) (k:∀d,d=digitF c b→0≤d→d<b→R (.ret (.int .i64 d)) st):PC 300 [.int .i32 c,.int .i64 b] st R:=by
 have hn:¬digitF (c:Int) b<0:=fun e=>by
  have:=JD hl hd e
  omega
 obtain ⟨h1,h2,_⟩:=Xjq hb hn
 exact Gq (k _ rfl h1 h2)
theorem mul_w {b v d:Int} {K:Int→Prop} (hb:b=10∨b=8∨b=16) (h0:0≤v) (h1:0≤d) (h2:d<b) (h3:¬(4611686018427387904 - d) / b<v) (k:K (v*b)):∃r,r=IntKind.i64.wrap (v*b)∧K r:=by
 refine ⟨_,(VK ?_ ?_).symm,k⟩<;>(rcases hb with rfl|rfl|rfl<;>omega)
theorem add_w {b v d:Int} {K:Int→Prop} (hb:b=10∨b=8∨b=16) (h0:0≤v) (h1:0≤d) (h2:d<b) (h3:¬(4611686018427387904 - d) / b<v) (k:K (v*b+d)):∃r,r=IntKind.i64.wrap (v*b+d)∧K r:=by
 refine ⟨_,(VK ?_ ?_).symm,k⟩<;>(rcases hb with rfl|rfl|rfl<;>omega)
theorem fit_w {b v d:Int} (hb:b=10∨b=8∨b=16) (h0:0≤v) (h1:0≤d) (h2:d<b) (h3:¬(4611686018427387904 - d) / b<v):0≤v*b+d∧v*b+d≤4611686018427387904:=by
 rcases hb with rfl|rfl|rfl<;>omega
theorem XkN {s:List UInt8} {b:Int} {n:Nat} (hn:isNumF s 11=true) (hp:prefF s=(b,n)):worthF s=worthG b (s.drop n) 0:=by
 unfold worthF
 rw [if_pos (Xag.1 hn),hp]
theorem worth_c {s:List UInt8} (h:R (.ret (.tup [.int .i64 (worthF s).1,.int .i64 (worthF s).2])) st):PC 248 [.str s] st R:=by
 refine Xkc ⟨_,Tryz.func248,by decide,by decide⟩ fun hl0=>?_
 have hl:s.length≤4611686018427387903:=by omega
 refine Xa Xb [] Tryz.func248 rfl (by decide) ?_
 cases hn:isNumF s 11 with
 |false=>
  have hw:worthF s=(0,40):=by
   unfold worthF
   rw [if_neg fun e=>?_]
   rw [Xag.2 e] at hn;cases hn
  rw [hw] at h
  repeat' ((conv=>whnf);first|(with_reducible first|refine Yd0 ?_|(refine Yd1 ?_ ?_<;>intro e h)|(refine Yd2 ?_ ?_<;>intro _)|refine Wo (by omega) (by omega) ?_|refine Wp (by omega) (by omega) (by omega) ?_|refine Wq (by omega) (by omega) ?_|refine Wr (by decide) (by omega) (by omega) ?_|refine Ws (by decide) ?_|refine WE (by omega) (by omega) (by omega) ?_)|refine nis_k hn hl ?_)
  all_goals exact fin h rfl
 |true=>
  obtain ⟨hr,hle⟩:=XkL hn
  have key:∀(b:Int) (n:Nat),prefF s=(b,n)→b=10∨b=8∨b=16:=fun b n e=>by
   rcases GR s with h|⟨h,_⟩|⟨h,_⟩<;>(rw [h] at e;cases e;omega)
  generalize hp:prefF s=p at hr hle
  obtain ⟨b,n⟩:=p
  have hp0:prefF s=(b,n):=hp
  dsimp only at hr hle
  have hb:=key b n hp
  rw [XkN hn hp] at h
  have hlen:(s.drop n).length=s.length - n:=by rw [List.length_drop]
  generalize ht:s.drop n=t at h hr hlen
  have hr:rowN b t=t.length:=by omega
  clear hp key hlen
  repeat' ((conv=>whnf);first|(with_reducible first|refine Yd0 ?_|(refine Yd1 ?_ ?_<;>intro e h)|(refine Yd2 ?_ ?_<;>intro _)|refine Wo (by omega) (by omega) ?_|refine Wp (by omega) (by omega) (by omega) ?_|refine Wq (by omega) (by omega) ?_|refine Wr (by decide) (by omega) (by omega) ?_|refine Ws (by decide) ?_|refine WE (by omega) (by omega) (by omega) ?_)|refine nis_k hn hl ?_|refine Ux hp0 hl ?_|refine Xnj ht (by omega) (by omega) ?_)
  conv=>whnf
  refine Xhd (α:=Nat) (β:=Int) (fun pos v=>[(6,.int .i64 v)]) (fun pos v=>[(0,[.sit t pos])]) [0,4,5,21] [] (fun _ _=>st) (fun pos v=>pos≤t.length∧rowN b (t.drop pos)=t.length - pos∧worthG b t 0=worthG b (t.drop pos) v∧0≤v∧v≤4611686018427387904) (fun pos v=>t.length - pos) 0 0 ⟨Nat.zero_le _,by rw [List.drop_zero];omega,by rw [List.drop_zero],by omega,by omega⟩ Yl (St.le_refl _) ?_
  rintro pos v ⟨j1,j2,j3,j4,j5⟩
  rw [j3] at h
  have hb0:0<b:=by omega
  repeat' ((conv=>whnf);first|(with_reducible first|refine Yd0 ?_|(refine Yd1 ?_ ?_<;>intro e h)|(refine Yd2 ?_ ?_<;>intro _)|refine Wo (by omega) (by omega) ?_|refine Wp (by omega) (by omega) (by omega) ?_|refine Wq (by omega) (by omega) ?_|refine Wr (by decide) (by omega) (by omega) ?_|refine Ws (by decide) ?_|refine WE (by omega) (by omega) (by omega) ?_)|refine WK (fun c m hd=>?_)|refine Wr hb0 (by omega) (by omega) ?_|refine digit_w (by omega) (by assumption) (by assumption) j2 (fun d hd0 hd1 hd2=>?_)|refine mul_w hb j4 hd1 hd2 (by assumption) ?_|refine add_w hb j4 hd1 hd2 (by assumption) ?_)
  ·rename_i hlt hgt
   obtain ⟨e1,e2⟩:=Xgy (v:=v) (base:=b) hlt hd (by rw [←hd0];omega)
   rw [e2,←hd0,if_pos hgt] at h
   exact fin h rfl
  ·rename_i hlt hgt
   obtain ⟨e1,e2⟩:=Xgy (v:=v) (base:=b) hlt hd (by rw [←hd0];omega)
   have e3:=(GY (base:=b) hlt hd (by rw [←hd0];omega)).2
   rw [←hd0,if_neg hgt] at e2
   have hf:=fit_w hb j4 hd1 hd2 hgt
   subst e1
   conv=>whnf
   exact ⟨(pos+1,v*b+d),⟨by dsimp only;omega,by dsimp only;omega,by rw [j3,e2],hf.1,hf.2⟩,by dsimp only;omega,Yl,St.le_refl _⟩
  ·rename_i hlt
   rw [List.drop_eq_nil_iff.2 (by omega)] at h
   exact fin h rfl
end
def encQ (n:Nd) (s:Sta) (e:Int):V:=.agg [.int .i64 n.kind,.int .i64 n.form,.str n.text,.int .i64 n.line,.int .i64 n.col,.slice 6 (encs n.kids) .any,
 .slice 4 (encTs s.toks) .any,.int .i64 s.pos,.slice 1 (ints s.opn) .any,.int .i64 s.wait,.int .i64 e]
section
variable {st:St} {R:Res→St→Prop}
attribute [local irreducible] Go.Aw.appendTo
def encRs:Rs→V
 | .inr (n,s)=>encQ n s 0
 | .inl (e,s)=>encQ nd0 s e
end
def rn:Rs→Nd
 | .inr p=>p.1
 | .inl _=>nd0
def rs:Rs→Sta
 | .inr p=>p.2
 | .inl p=>p.2
def re:Rs→Int
 | .inr _=>0
 | .inl p=>p.1
theorem XlJ (q:Rs):encRs q=encQ (rn q) (rs q) (re q):=by cases q<;>rfl
def RCalls (f:FuncId) (d:Int) (A:Sta→Rs):Prop:=∀s,mu s≤100000000→∀(st:St) (R:Res→St→Prop),R (.ret (encRs (A s))) st→PC f [encS s,.int .i64 d] st R
theorem RCalls.e {f:FuncId} {d x:Int} {A:Sta→Rs} (h:RCalls f d A) (hx:x=d) {s:Sta} {q:Rs} (e:A s=q) (hm:mu s≤100000000) {st:St} {R:Res→St→Prop} (k:R (.ret (encRs q)) st):PC f [encS s,.int .i64 x] st R:=by
 subst hx;subst e;exact h s hm st R k
theorem RCalls.q {f:FuncId} {d x:Int} {A:Sta→Rs} (h:RCalls f d A) (hx:x=d) {s:Sta} (hm:mu s≤100000000) {st:St} {R:Res→St→Prop} (k:R (.ret (encQ (rn (A s)) (rs (A s)) (re (A s)))) st):PC f [encS s,.int .i64 x] st R:=by
 subst hx;exact h s hm st R (by rw [XlJ];exact k)
end Go.Proofs.YtkidoddkbhchkaaGreatDoor
namespace Go.Aw
theorem bcase_t {b:Bool} {p q:Prop} (h:b=true) (k:p):bcase b p q:=Wk (fun _=>k) (fun e=>by rw [h] at e;cases e)
theorem bcase_f {b:Bool} {p q:Prop} (h:b=false) (k:q):bcase b p q:=Wk (fun e=>by rw [h] at e;cases e) (fun _=>k)
theorem WG {k l c:Int} {t:List UInt8} {p q:Prop} (h:p):bcase (k==k&&(t==t&&(l==l&&(c==c&&true)))) p q:=bcase_t (by simp) h
theorem WH {k l c:Int} {t:List UInt8} {p q:Prop} (h:q):bcase (!(k==k&&(t==t&&(l==l&&(c==c&&true))))) p q:=bcase_f (by simp) h
theorem WI {l:List Int} {i:Int} {x:Int} {K:List V→Prop} (h:l[i.toNat]? =some x) (h0:0≤i) (k:K [.int .i64 x]):0≤i∧∃e,(ints l)[i.toNat]? =some e∧K e:=⟨h0,_,by simp [ints,h],k⟩
end Go.Aw
namespace Go.Proofs.YtkidoddkbhchkaaGreatDoor
open Go Go.Aw
section
variable {st:St} {R:Res→St→Prop}
attribute [local irreducible] Go.Aw.appendTo
theorem Xkm:∀(m:Nat) {n:Nd} {st:St} {R:Res→St→Prop},n.size≤m→R (.ret (.bool true)) st→PC 24 [enc n,enc n] st R:=by
 intro m
 induction m with
 |zero=>intro n st R hm h;cases n;rw [Nd.size] at hm;omega
 |succ m ih=>
  intro n st R hm h
  refine Xa Xb [] Tryz.func24 rfl (by decide) ?_
  repeat' ((conv=>whnf);first|(with_reducible first|refine Wt rfl ?_|refine WG ?_|refine WH ?_|refine WI (by assumption) (by omega) ?_|exact Wa|exact Wb|exact Wc|refine Wd (by kernel_rfl) ?_|refine We ?_ ?_ ?_|refine W8 (by decide +kernel) ?_ ?_ ?_|refine W0 (by decide +kernel) ?_ ?_ ?_|refine W9 ?_ ?_ ?_|refine Wt (by first|assumption|omega) ?_|refine Wu (by first|assumption|omega) ?_|refine Wv (by omega) ?_|refine Ww (by omega) ?_|refine Wf (by decide) (fun _=>?_) (fun _=>?_)|refine Wg (fun _=>?_) (fun _=>?_)|refine Wh (fun _=>?_) (fun _=>?_)|refine Wi ?_|refine Wj ?_|refine Wk (fun _=>?_) (fun _=>?_)|refine Wl (fun _=>?_)|refine Wm (by assumption) (by omega) ?_|refine Wn (by omega) (by omega) (fun _ _ _=>?_)|refine Wq (by omega) (by omega) ?_|refine Wz (fun _=>?_)|refine WA (fun _=>?_)|refine WB (by assumption) (by omega) ?_|refine WC (by omega) (by omega) (fun _ _=>?_)|refine WD (by omega) (by omega) (fun _ _=>?_))|with_reducible refine WF ?_)
  refine GA 5 [2,3] [0,1] n.kids.length (fun k=>k≤n.kids.length) (Nat.zero_le _) Yl ?_
  intro k hk
  by_cases hlt:k<n.kids.length
  ·obtain ⟨x,hx⟩:∃x,n.kids[(k:Int).toNat]? =some x:=⟨_,List.getElem?_eq_getElem hlt⟩
   have hxm:x ∈ n.kids:=List.mem_of_getElem? hx
   have hxs:=Zn hxm
   repeat' ((conv=>whnf);first|(with_reducible first|refine Wt rfl ?_|refine WG ?_|refine WH ?_|refine WI (by assumption) (by omega) ?_|exact Wa|exact Wb|exact Wc|refine Wd (by kernel_rfl) ?_|refine We ?_ ?_ ?_|refine W8 (by decide +kernel) ?_ ?_ ?_|refine W0 (by decide +kernel) ?_ ?_ ?_|refine W9 ?_ ?_ ?_|refine Wt (by first|assumption|omega) ?_|refine Wu (by first|assumption|omega) ?_|refine Wv (by omega) ?_|refine Ww (by omega) ?_|refine Wf (by decide) (fun _=>?_) (fun _=>?_)|refine Wg (fun _=>?_) (fun _=>?_)|refine Wh (fun _=>?_) (fun _=>?_)|refine Wi ?_|refine Wj ?_|refine Wk (fun _=>?_) (fun _=>?_)|refine Wl (fun _=>?_)|refine Wm (by assumption) (by omega) ?_|refine Wn (by omega) (by omega) (fun _ _ _=>?_)|refine Wq (by omega) (by omega) ?_|refine Wz (fun _=>?_)|refine WA (fun _=>?_)|refine WB (by assumption) (by omega) ?_|refine WC (by omega) (by omega) (fun _ _=>?_)|refine WD (by omega) (by omega) (fun _ _=>?_))|refine ih (n:=x) (by omega) ?_|with_reducible refine WF ?_)
   all_goals conv=>whnf
   all_goals exact ⟨k+1,hlt,Nat.sub_lt_sub_left hlt (Nat.lt_succ_self k),Yl,St.le_refl _⟩
  ·skip
   repeat' ((conv=>whnf);first|(with_reducible first|refine Wt rfl ?_|refine WG ?_|refine WH ?_|refine WI (by assumption) (by omega) ?_|exact Wa|exact Wb|exact Wc|refine Wd (by kernel_rfl) ?_|refine We ?_ ?_ ?_|refine W8 (by decide +kernel) ?_ ?_ ?_|refine W0 (by decide +kernel) ?_ ?_ ?_|refine W9 ?_ ?_ ?_|refine Wt (by first|assumption|omega) ?_|refine Wu (by first|assumption|omega) ?_|refine Wv (by omega) ?_|refine Ww (by omega) ?_|refine Wf (by decide) (fun _=>?_) (fun _=>?_)|refine Wg (fun _=>?_) (fun _=>?_)|refine Wh (fun _=>?_) (fun _=>?_)|refine Wi ?_|refine Wj ?_|refine Wk (fun _=>?_) (fun _=>?_)|refine Wl (fun _=>?_)|refine Wm (by assumption) (by omega) ?_|refine Wn (by omega) (by omega) (fun _ _ _=>?_)|refine Wq (by omega) (by omega) ?_|refine Wz (fun _=>?_)|refine WA (fun _=>?_)|refine WB (by assumption) (by omega) ?_|refine WC (by omega) (by omega) (fun _ _=>?_)|refine WD (by omega) (by omega) (fun _ _=>?_))|with_reducible refine WF ?_)
   all_goals exact fin h rfl
theorem Xga {s:Sta} (h:R (.ret (.bool true)) st):PC 25 [encS s,encS s] st R:=by
 refine Xa Xb [] Tryz.func25 rfl (by decide) ?_
 repeat' ((conv=>whnf);first|(with_reducible first|refine Wt rfl ?_|refine WG ?_|refine WH ?_|refine WI (by assumption) (by omega) ?_|exact Wa|exact Wb|exact Wc|refine Wd (by kernel_rfl) ?_|refine We ?_ ?_ ?_|refine W8 (by decide +kernel) ?_ ?_ ?_|refine W0 (by decide +kernel) ?_ ?_ ?_|refine W9 ?_ ?_ ?_|refine Wt (by first|assumption|omega) ?_|refine Wu (by first|assumption|omega) ?_|refine Wv (by omega) ?_|refine Ww (by omega) ?_|refine Wf (by decide) (fun _=>?_) (fun _=>?_)|refine Wg (fun _=>?_) (fun _=>?_)|refine Wh (fun _=>?_) (fun _=>?_)|refine Wi ?_|refine Wj ?_|refine Wk (fun _=>?_) (fun _=>?_)|refine Wl (fun _=>?_)|refine Wm (by assumption) (by omega) ?_|refine Wn (by omega) (by omega) (fun _ _ _=>?_)|refine Wq (by omega) (by omega) ?_|refine Wz (fun _=>?_)|refine WA (fun _=>?_)|refine WB (by assumption) (by omega) ?_|refine WC (by omega) (by omega) (fun _ _=>?_)|refine WD (by omega) (by omega) (fun _ _=>?_))|with_reducible refine WF ?_)
 refine GA 5 [2,3] [0,1] s.toks.length (fun k=>k≤s.toks.length) (Nat.zero_le _) Yl ?_
 intro k hk
 by_cases hlt:k<s.toks.length
 ·obtain ⟨x,hx⟩:∃x,s.toks[(k:Int).toNat]? =some x:=⟨_,List.getElem?_eq_getElem hlt⟩
  repeat' ((conv=>whnf);first|(with_reducible first|refine Wt rfl ?_|refine WG ?_|refine WH ?_|refine WI (by assumption) (by omega) ?_|exact Wa|exact Wb|exact Wc|refine Wd (by kernel_rfl) ?_|refine We ?_ ?_ ?_|refine W8 (by decide +kernel) ?_ ?_ ?_|refine W0 (by decide +kernel) ?_ ?_ ?_|refine W9 ?_ ?_ ?_|refine Wt (by first|assumption|omega) ?_|refine Wu (by first|assumption|omega) ?_|refine Wv (by omega) ?_|refine Ww (by omega) ?_|refine Wf (by decide) (fun _=>?_) (fun _=>?_)|refine Wg (fun _=>?_) (fun _=>?_)|refine Wh (fun _=>?_) (fun _=>?_)|refine Wi ?_|refine Wj ?_|refine Wk (fun _=>?_) (fun _=>?_)|refine Wl (fun _=>?_)|refine Wm (by assumption) (by omega) ?_|refine Wn (by omega) (by omega) (fun _ _ _=>?_)|refine Wq (by omega) (by omega) ?_|refine Wz (fun _=>?_)|refine WA (fun _=>?_)|refine WB (by assumption) (by omega) ?_|refine WC (by omega) (by omega) (fun _ _=>?_)|refine WD (by omega) (by omega) (fun _ _=>?_))|with_reducible refine WF ?_)
  all_goals conv=>whnf
  all_goals exact ⟨k+1,hlt,Nat.sub_lt_sub_left hlt (Nat.lt_succ_self k),Yl,St.le_refl _⟩
 ·skip
  repeat' ((conv=>whnf);first|(with_reducible first|refine Wt rfl ?_|refine WG ?_|refine WH ?_|refine WI (by assumption) (by omega) ?_|exact Wa|exact Wb|exact Wc|refine Wd (by kernel_rfl) ?_|refine We ?_ ?_ ?_|refine W8 (by decide +kernel) ?_ ?_ ?_|refine W0 (by decide +kernel) ?_ ?_ ?_|refine W9 ?_ ?_ ?_|refine Wt (by first|assumption|omega) ?_|refine Wu (by first|assumption|omega) ?_|refine Wv (by omega) ?_|refine Ww (by omega) ?_|refine Wf (by decide) (fun _=>?_) (fun _=>?_)|refine Wg (fun _=>?_) (fun _=>?_)|refine Wh (fun _=>?_) (fun _=>?_)|refine Wi ?_|refine Wj ?_|refine Wk (fun _=>?_) (fun _=>?_)|refine Wl (fun _=>?_)|refine Wm (by assumption) (by omega) ?_|refine Wn (by omega) (by omega) (fun _ _ _=>?_)|refine Wq (by omega) (by omega) ?_|refine Wz (fun _=>?_)|refine WA (fun _=>?_)|refine WB (by assumption) (by omega) ?_|refine WC (by omega) (by omega) (fun _ _=>?_)|refine WD (by omega) (by omega) (fun _ _=>?_))|with_reducible refine WF ?_)
  refine GA 6 [2,3] [0,1] s.opn.length (fun k=>k≤s.opn.length) (Nat.zero_le _) Yl ?_
  intro k hk
  by_cases hlt:k<s.opn.length
  ·obtain ⟨x,hx⟩:∃x,s.opn[(k:Int).toNat]? =some x:=⟨_,List.getElem?_eq_getElem hlt⟩
   repeat' ((conv=>whnf);first|(with_reducible first|refine Wt rfl ?_|refine WG ?_|refine WH ?_|refine WI (by assumption) (by omega) ?_|exact Wa|exact Wb|exact Wc|refine Wd (by kernel_rfl) ?_|refine We ?_ ?_ ?_|refine W8 (by decide +kernel) ?_ ?_ ?_|refine W0 (by decide +kernel) ?_ ?_ ?_|refine W9 ?_ ?_ ?_|refine Wt (by first|assumption|omega) ?_|refine Wu (by first|assumption|omega) ?_|refine Wv (by omega) ?_|refine Ww (by omega) ?_|refine Wf (by decide) (fun _=>?_) (fun _=>?_)|refine Wg (fun _=>?_) (fun _=>?_)|refine Wh (fun _=>?_) (fun _=>?_)|refine Wi ?_|refine Wj ?_|refine Wk (fun _=>?_) (fun _=>?_)|refine Wl (fun _=>?_)|refine Wm (by assumption) (by omega) ?_|refine Wn (by omega) (by omega) (fun _ _ _=>?_)|refine Wq (by omega) (by omega) ?_|refine Wz (fun _=>?_)|refine WA (fun _=>?_)|refine WB (by assumption) (by omega) ?_|refine WC (by omega) (by omega) (fun _ _=>?_)|refine WD (by omega) (by omega) (fun _ _=>?_))|with_reducible refine WF ?_)
   all_goals conv=>whnf
   all_goals exact ⟨k+1,hlt,Nat.sub_lt_sub_left hlt (Nat.lt_succ_self k),Yl,St.le_refl _⟩
  ·skip
   repeat' ((conv=>whnf);first|(with_reducible first|refine Wt rfl ?_|refine WG ?_|refine WH ?_|refine WI (by assumption) (by omega) ?_|exact Wa|exact Wb|exact Wc|refine Wd (by kernel_rfl) ?_|refine We ?_ ?_ ?_|refine W8 (by decide +kernel) ?_ ?_ ?_|refine W0 (by decide +kernel) ?_ ?_ ?_|refine W9 ?_ ?_ ?_|refine Wt (by first|assumption|omega) ?_|refine Wu (by first|assumption|omega) ?_|refine Wv (by omega) ?_|refine Ww (by omega) ?_|refine Wf (by decide) (fun _=>?_) (fun _=>?_)|refine Wg (fun _=>?_) (fun _=>?_)|refine Wh (fun _=>?_) (fun _=>?_)|refine Wi ?_|refine Wj ?_|refine Wk (fun _=>?_) (fun _=>?_)|refine Wl (fun _=>?_)|refine Wm (by assumption) (by omega) ?_|refine Wn (by omega) (by omega) (fun _ _ _=>?_)|refine Wq (by omega) (by omega) ?_|refine Wz (fun _=>?_)|refine WA (fun _=>?_)|refine WB (by assumption) (by omega) ?_|refine WC (by omega) (by omega) (fun _ _=>?_)|refine WD (by omega) (by omega) (fun _ _=>?_))|with_reducible refine WF ?_)
   all_goals exact fin h rfl
theorem Xhx {l:List Tk} {o1 o2:Own} (h:R (.ret (.bool true)) st):PC 37 [.slice 4 (encTs l) o1,.slice 4 (encTs l) o2] st R:=by
 refine Xa Xb [] Tryz.func37 rfl (by decide) ?_
 repeat' ((conv=>whnf);first|(with_reducible first|refine Wt rfl ?_|refine WG ?_|refine WH ?_|refine WI (by assumption) (by omega) ?_|exact Wa|exact Wb|exact Wc|refine Wd (by kernel_rfl) ?_|refine We ?_ ?_ ?_|refine W8 (by decide +kernel) ?_ ?_ ?_|refine W0 (by decide +kernel) ?_ ?_ ?_|refine W9 ?_ ?_ ?_|refine Wt (by first|assumption|omega) ?_|refine Wu (by first|assumption|omega) ?_|refine Wv (by omega) ?_|refine Ww (by omega) ?_|refine Wf (by decide) (fun _=>?_) (fun _=>?_)|refine Wg (fun _=>?_) (fun _=>?_)|refine Wh (fun _=>?_) (fun _=>?_)|refine Wi ?_|refine Wj ?_|refine Wk (fun _=>?_) (fun _=>?_)|refine Wl (fun _=>?_)|refine Wm (by assumption) (by omega) ?_|refine Wn (by omega) (by omega) (fun _ _ _=>?_)|refine Wq (by omega) (by omega) ?_|refine Wz (fun _=>?_)|refine WA (fun _=>?_)|refine WB (by assumption) (by omega) ?_|refine WC (by omega) (by omega) (fun _ _=>?_)|refine WD (by omega) (by omega) (fun _ _=>?_))|with_reducible refine WF ?_)
 refine GA 5 [0,1] [] l.length (fun k=>k≤l.length) (Nat.zero_le _) Yl ?_
 intro k hk
 by_cases hlt:k<l.length
 ·obtain ⟨x,hx⟩:∃x,l[(k:Int).toNat]? =some x:=⟨_,List.getElem?_eq_getElem hlt⟩
  repeat' ((conv=>whnf);first|(with_reducible first|refine Wt rfl ?_|refine WG ?_|refine WH ?_|refine WI (by assumption) (by omega) ?_|exact Wa|exact Wb|exact Wc|refine Wd (by kernel_rfl) ?_|refine We ?_ ?_ ?_|refine W8 (by decide +kernel) ?_ ?_ ?_|refine W0 (by decide +kernel) ?_ ?_ ?_|refine W9 ?_ ?_ ?_|refine Wt (by first|assumption|omega) ?_|refine Wu (by first|assumption|omega) ?_|refine Wv (by omega) ?_|refine Ww (by omega) ?_|refine Wf (by decide) (fun _=>?_) (fun _=>?_)|refine Wg (fun _=>?_) (fun _=>?_)|refine Wh (fun _=>?_) (fun _=>?_)|refine Wi ?_|refine Wj ?_|refine Wk (fun _=>?_) (fun _=>?_)|refine Wl (fun _=>?_)|refine Wm (by assumption) (by omega) ?_|refine Wn (by omega) (by omega) (fun _ _ _=>?_)|refine Wq (by omega) (by omega) ?_|refine Wz (fun _=>?_)|refine WA (fun _=>?_)|refine WB (by assumption) (by omega) ?_|refine WC (by omega) (by omega) (fun _ _=>?_)|refine WD (by omega) (by omega) (fun _ _=>?_))|with_reducible refine WF ?_)
  all_goals conv=>whnf
  all_goals exact ⟨k+1,hlt,Nat.sub_lt_sub_left hlt (Nat.lt_succ_self k),Yl,St.le_refl _⟩
 ·skip
  repeat' ((conv=>whnf);first|(with_reducible first|refine Wt rfl ?_|refine WG ?_|refine WH ?_|refine WI (by assumption) (by omega) ?_|exact Wa|exact Wb|exact Wc|refine Wd (by kernel_rfl) ?_|refine We ?_ ?_ ?_|refine W8 (by decide +kernel) ?_ ?_ ?_|refine W0 (by decide +kernel) ?_ ?_ ?_|refine W9 ?_ ?_ ?_|refine Wt (by first|assumption|omega) ?_|refine Wu (by first|assumption|omega) ?_|refine Wv (by omega) ?_|refine Ww (by omega) ?_|refine Wf (by decide) (fun _=>?_) (fun _=>?_)|refine Wg (fun _=>?_) (fun _=>?_)|refine Wh (fun _=>?_) (fun _=>?_)|refine Wi ?_|refine Wj ?_|refine Wk (fun _=>?_) (fun _=>?_)|refine Wl (fun _=>?_)|refine Wm (by assumption) (by omega) ?_|refine Wn (by omega) (by omega) (fun _ _ _=>?_)|refine Wq (by omega) (by omega) ?_|refine Wz (fun _=>?_)|refine WA (fun _=>?_)|refine WB (by assumption) (by omega) ?_|refine WC (by omega) (by omega) (fun _ _=>?_)|refine WD (by omega) (by omega) (fun _ _=>?_))|with_reducible refine WF ?_)
  all_goals exact fin h rfl
end
mutual
def leavesF:Nd→List Tk
 | .mk k f t l c ks=>if k=1 then [⟨f,t,l,c⟩] else leavesFs ks
def leavesFs:List Nd→List Tk
 |[]=>[]
 |n::r=>leavesF n++leavesFs r
end
theorem Zt:∀{a b:List Nd},leavesFs (a++b)=leavesFs a++leavesFs b
 |[],b=>rfl
 |n::r,b=>by rw [List.cons_append,leavesFs,leavesFs,Zt,List.append_assoc]
theorem Xee (t:Tk):leavesF (leafT t)=[t]:=rfl
theorem Xef {k:Int} {l:List Nd} (h:¬k=1):leavesF (nodeK k l)=leavesFs l:=by unfold nodeK;rw [leavesF,if_neg h]
theorem ZI {n:Nd}:leavesFs [n]=leavesF n:=by rw [leavesFs,leavesFs,List.append_nil]
inductive Path:Sta→List Tk→Sta→Prop where
 |nil (s:Sta):Path s [] s
 |cons {s:Sta} {l:List Tk} {t:Sta}:(nextM s).2.2=0→mu (nextM s).2.1<mu s→Path (nextM s).2.1 l t→Path s ((nextM s).1::l) t
theorem Path.trans {s t u:Sta} {l m:List Tk} (h:Path s l t) (k:Path t m u):Path s (l++m) u:=by
 induction h with
 |nil s=>exact k
 |cons h1 h2 _ ih=>exact .cons h1 h2 (ih k)
theorem Path.one {s:Sta} (h1:(nextM s).2.2=0) (h2:mu (nextM s).2.1<mu s):Path s [(nextM s).1] (nextM s).2.1:=.cons h1 h2 (.nil _)
theorem Path.is {s:Sta} {k:Int} {x:List UInt8} (h:isF s k x=true) (h0:k≠0) (h1:k≠21):Path s [(nextM s).1] (nextM s).2.1:=.one (Jp h h0) (Qq h h0 h1)
variable {A:Sta→Rs}
theorem Xm6 (l:List Nd) (s:Sta):∀q s',rowL A l s=.inr (q,s')→∃r,q=l++r:=by
 fun_induction rowL A l s with
 |case1 l s h1 e1 h2=>intro q s' h;cases h
 |case2 l s h1 p h2 h3 ih=>intro q s' h;obtain ⟨r,e⟩:=ih q s' h;exact ⟨[p.1]++r,by rw [e,List.append_assoc]⟩
 |case3 l s h1 p h2 h3=>intro q s' h;cases h
 |case4 l s h1=>intro q s' h;cases h;exact ⟨[],(List.append_nil _).symm⟩
section
variable {st:St} {R:Res→St→Prop}
attribute [local irreducible] Go.Aw.appendTo
theorem XeC {a b:List Nd}:sizes (a++b)=sizes a+sizes b:=by
 induction a with
 |nil=>simp [sizes]
 |cons x r ih=>rw [List.cons_append,sizes,sizes,ih];omega
end
def slk (k:Int):Nat:=if k=1 then 3 else if k=30 then 2 else 1
def sls:List Nd→Nat
 |[]=>0
 |n::r=>slk n.kind+sls r
theorem slk_pos (k:Int):1≤slk k:=by
 unfold slk
 (repeat' split)<;>omega
theorem UD:∀{a b:List Nd},sls (a++b)=sls a+sls b
 |[],b=>by rw [List.nil_append,sls,Nat.zero_add]
 |n::r,b=>by rw [List.cons_append,sls,sls,UD];omega
theorem Xbh:∀{l:List Nd},l.length≤sls l
 |[]=>Nat.le_refl _
 |n::r=>by have:=Xbh (l:=r);have:=slk_pos n.kind;rw [sls,List.length_cons];omega
def idleT (t:Tk):Bool:=t.kind==18||t.kind==19||t.kind==20||(t.kind==15&&(t.text==[123]||t.text==[125]||t.text==[59]))
inductive Rds:List Nd→Sta→Sta→Prop where
 |nil (s:Sta):Rds [] s s
 |app {l m:List Nd} {s s1 s2:Sta}:Rds l s s1→Rds m s1 s2→Rds (l++m) s s2
 |tok {s:Sta}:(nextM s).2.2=0→(nextM s).1.kind<18→(nextM s).1.kind≠0→Rds [leafT (nextM s).1] s (nextM s).2.1
 |skip {s:Sta}:(nextM s).2.2=0→idleT (nextM s).1=true→Rds [] s (nextM s).2.1
 |close {s:Sta}:(closeF s).2=true→Rds [] s (closeF s).1
 |node {k:Int} {l:List Nd} {s s':Sta}:Rds l s s'→k≠1→1+slk k≤sls l→Rds [nodeK k l] s s'
 |block {f:Bool} {l:List Nd} {s s':Sta}:(nextM s).2.2=0→idleT (nextM s).1=true→Rds l (nextM s).2.1 s'→Rds [blockN f l] s s'
theorem Gx {t:Tk} (h:idleT t=true):t.kind≠0∧t.kind≠21:=by
 unfold idleT at h
 simp only [Bool.or_eq_true,Bool.and_eq_true,beq_iff_eq] at h
 omega
theorem Rds.size {l:List Nd} {s s':Sta} (h:Rds l s s'):sizes l+sls l+4*mu s'≤4*mu s:=by
 induction h with
 |nil s=>simp only [sizes,sls];omega
 |app _ _ h1 h2=>rw [XeC,UD];omega
 |tok h1 h2 h3=>
  rename_i s
  have:=(Zu h1).2 (by omega)
  have e:sizes [leafT (nextM s).1]+sls [leafT (nextM s).1]=4:=rfl
  omega
 |skip h1 h2=>have:=(Zu h1).1;simp only [sizes,sls];omega
 |close h1=>have:=Hu h1;simp only [sizes,sls];omega
 |node h1 h2 h3 ih=>
  rename_i k l s s'
  have e:sizes [nodeK k l]+sls [nodeK k l]=(1+sizes l+0)+(slk k+0):=by simp only [nodeK,sizes,Nd.size,sls];rfl
  omega
 |block h1 h2 h3 ih=>
  rename_i f l s s'
  have:=(Zu h1).2 (Gx h2).2
  have e:sizes [blockN f l]+sls [blockN f l]=(1+sizes l+0)+(1+0):=by simp only [blockN,sizes,Nd.size,sls];rfl
  omega
theorem Rds.size1 {n:Nd} {s s':Sta} (h:Rds [n] s s'):n.size+4*mu s'≤4*mu s:=by
 have:=h.size
 simp only [sizes] at this
 omega
theorem Rds.two {k:Int} {l:List Nd} {s s':Sta} (h:Rds l s s') (hk:k≠1) (h30:k≠30) (hl:2≤l.length):Rds [nodeK k l] s s':=
 .node h hk (by have:=Xbh (l:=l);unfold slk;rw [if_neg hk,if_neg h30];omega)
theorem Rds.is {s:Sta} {k:Int} {x:List UInt8} (h:isF s k x=true) (h0:k≠0) (h1:k<18):Rds [leafT (nextM s).1] s (nextM s).2.1:=by
 have e:(nextM s).1.kind=k:=by
  unfold isF at h
  simp only [Bool.and_eq_true,beq_iff_eq] at h
  exact h.1
 exact .tok (Jp h h0) (by omega) (by omega)
theorem Rds.cons {n:Nd} {l:List Nd} {s s1 s2:Sta} (h:Rds [n] s s1) (k:Rds l s1 s2):Rds (n::l) s s2:=.app h k
theorem Rds.snoc {n:Nd} {l:List Nd} {s s1 s2:Sta} (h:Rds l s s1) (k:Rds [n] s1 s2):Rds (l++[n]) s s2:=.app h k
theorem Rds.one {k:Int} {l:List Nd} {s s':Sta} (h:Rds l s s') (hk:k≠1) (h30:k≠30) (hl:1≤l.length):Rds [oneK k l] s s':=by
 unfold oneK
 split
 ·match l,‹l.length=1› with
  |[x],_=>exact h
 ·exact h.two hk h30 (by omega)
def Derives (A:Sta→Rs):Prop:=∀s n s',A s=.inr (n,s')→Rds [n] s s'
variable {A:Sta→Rs}
theorem VH {t:Tk} (h:startsF t=true):t.kind≠0∧t.kind<18:=by
 unfold startsF at h
 simp only [Bool.or_eq_true,Bool.and_eq_true,beq_iff_eq] at h
 omega
theorem XdT {s:Sta} {n:Nd} {s':Sta} (hs:startsF (nextM s).1=true) (h:takeP s=.inr (n,s')):Rds [n] s s':=by
 have hk:=VH hs
 unfold takeP at h
 split at h
 ·rename_i e;cases h;exact .tok e hk.2 hk.1
 ·cases h
theorem dt_want {s:Sta} {k:Int} {x:List UInt8} {n:Nd} {s':Sta} (h0:k≠0) (h1:k<18) (h:wantP s k x=.inr (n,s')):Rds [n] s s':=by
 unfold wantP at h
 split at h
 ·rename_i e
  rw [Jh e h0] at h
  cases h
  exact .is e h0 h1
 ·cases h
theorem XbK {s:Sta} {k:Int} {l:List Nd} {x:List UInt8} {n:Nd} {s0 s':Sta} (hk:k≠1) (h30:k≠30) (hl:1≤l.length) (h0:Rds l s0 s) (h:finP k l s x=.inr (n,s')):Rds [n] s0 s':=by
 unfold finP at h
 split at h
 ·cases h
 ·rename_i p hp
  cases h
  exact (h0.snoc (dt_want (by decide) (by decide) hp)).two hk h30 (by rw [List.length_append,List.length_singleton];omega)
theorem dt_rowL (hA:Derives A) (l:List Nd) (s:Sta):∀s0 q s',Rds l s0 s→rowL A l s=.inr (q,s')→Rds q s0 s':=by
 fun_induction rowL A l s with
 |case1 l s h1 e1 h2=>intro s0 q s' h0 h;cases h
 |case2 l s h1 p h2 h3 ih=>intro s0 q s' h0 h;exact ih s0 q s' (h0.snoc (hA s p.1 p.2 h2)) h
 |case3 l s h1 p h2 h3=>intro s0 q s' h0 h;cases h
 |case4 l s h1=>intro s0 q s' h0 h;cases h;exact h0
theorem XgQ (hA:Derives A):Derives (rowP A):=fun s n s' h=>by
 unfold rowP at h
 split at h
 ·cases h
 ·rename_i p hp
  have h1:=hA s p.1 p.2 hp
  split at h
  ·cases h
  ·rename_i q hq
   have h2:=dt_rowL hA _ _ _ _ _ h1 hq
   obtain ⟨r,hr⟩:=Xm6 _ _ _ _ hq
   split at h
   ·rename_i hl
    cases h
    have:r=[]:=by
     rw [hr,List.length_append,List.length_singleton] at hl
     exact List.eq_nil_iff_length_eq_zero.2 (by omega)
    rw [this,List.append_nil] at hr
    rw [hr] at h2;exact h2
   ·rename_i hl
    cases h
    exact h2.two (by decide) (by decide) (by rw [hr,List.length_append,List.length_singleton] at *;omega)
theorem dt_arrL (hA:Derives A) (l:List Nd) (s:Sta):∀s0 q s',Rds l s0 s→arrL A l s=.inr (q,s')→Rds q s0 s'∧∃r,q=l++r:=by
 fun_induction arrL A l s with
 |case1 l s h1 e1 h2=>intro s0 q s' h0 h;cases h
 |case2 l s h1 p h2 h3 ih=>
  intro s0 q s' h0 h
  obtain ⟨k1,r,k2⟩:=ih s0 q s' (.app h0 (.cons (.is h1 (by decide) (by decide)) (XgQ hA _ p.1 p.2 h2))) h
  exact ⟨k1,_,by rw [k2,List.append_assoc]⟩
 |case3 l s h1 p h2 h3=>intro s0 q s' h0 h;cases h
 |case4 l s h1=>intro s0 q s' h0 h;cases h;exact ⟨h0,[],(List.append_nil _).symm⟩
theorem Xda (hA:Derives A) {n n':Nd} {s0 s s':Sta} (h0:Rds [n] s0 s) (h:arrowsP A n s=.inr (n',s')):Rds [n'] s0 s':=by
 unfold arrowsP at h
 split at h
 ·cases h
 ·rename_i q hq
  obtain ⟨k1,r,k3⟩:=dt_arrL hA _ _ _ _ _ h0 hq
  split at h
  ·rename_i hl
   cases h
   have:r=[]:=by
    rw [k3,List.length_append,List.length_singleton] at hl
    exact List.eq_nil_iff_length_eq_zero.2 (by omega)
   rw [this,List.append_nil] at k3
   rw [k3] at k1;exact k1
  ·rename_i hl
   cases h
   exact k1.two (by decide) (by decide) (by rw [k3,List.length_append,List.length_singleton] at *;omega)
theorem Xfb (hA:Derives A):Derives (wholeP A):=fun s n s' h=>by
 unfold wholeP at h
 split at h
 ·cases h
 ·rename_i p hp
  exact Xda hA (XgQ hA _ p.1 p.2 hp) h
theorem dt_full (hA:Derives A):Derives (fullP A):=fun s n s' h=>by
 unfold fullP at h
 split at h
 ·cases h
 ·rename_i p hp
  have h1:=XgQ hA _ p.1 p.2 hp
  split at h
  ·rename_i hi
   split at h
   ·cases h
   ·rename_i q hq
    cases h
    exact (h1.cons (.cons (.is hi (by decide) (by decide)) (Xfb hA _ q.1 q.2 hq))).two (by decide) (by decide) (Nat.le_of_ble_eq_true rfl)
  ·exact Xda hA h1 h
theorem Xjs (hA:Derives A) (l:List Nd) (s:Sta):∀s0 q s',Rds l s0 s→1≤l.length→typesL A l s=.inr (q,s')→Rds q s0 s'∧1≤q.length:=by
 fun_induction typesL A l s with
 |case1 l s h1 e1 h2=>intro s0 q s' h0 hl h;cases h
 |case2 l s h1 p h2 h3 ih=>
  intro s0 q s' h0 hl h
  exact ih s0 q s' (.app h0 (.cons (.is h1 (by decide) (by decide)) (hA _ p.1 p.2 h2))) (by rw [List.length_append];omega) h
 |case3 l s h1 p h2 h3=>intro s0 q s' h0 hl h;cases h
 |case4 l s h1=>intro s0 q s' h0 hl h;cases h;exact ⟨h0,hl⟩
theorem Xln (l:List Nd) (s:Sta):∀s0,Rds l s0 s→1≤l.length→Rds (commaL l s).1 s0 (commaL l s).2∧1≤(commaL l s).1.length:=by
 fun_induction commaL l s with
 |case1 l s h1 h2 ih=>intro s0 h0 hl;exact ih s0 (h0.snoc (.is h1 (by decide) (by decide))) (by rw [List.length_append];omega)
 |case2 l s h1 h2=>intro s0 h0 hl;exact ⟨h0,hl⟩
 |case3 l s h1=>intro s0 h0 hl;exact ⟨h0,hl⟩
theorem Xlo (hA:Derives A) {s:Sta} {n:Nd} {s':Sta} (hs:startsF (nextM s).1=true) (h:roundP A s=.inr (n,s')):Rds [n] s s':=by
 unfold roundP at h
 split at h
 ·cases h
 ·rename_i p hp
  have h1:=XdT hs (n:=p.1) (s':=p.2) hp
  split at h
  ·rename_i hi
   exact XbK (by decide) (by decide) (Nat.le_of_ble_eq_true rfl) (h1.cons (.is hi (by decide) (by decide))) h
  split at h
  ·exact XbK (by decide) (by decide) (Nat.le_of_ble_eq_true rfl) h1 h
  split at h
  ·obtain ⟨k1,k2⟩:=Xln [p.1] p.2 s h1 (Nat.le_of_ble_eq_true rfl)
   exact XbK (by decide) (by decide) k2 k1 h
  split at h
  ·cases h
  ·rename_i q hq
   have h2:=hA _ q.1 q.2 hq
   split at h
   ·cases h
   ·rename_i r hr
    obtain ⟨k1,k2⟩:=Xjs hA _ _ _ _ _ (h1.cons h2) (Nat.le_of_ble_eq_true rfl) hr
    exact XbK (by split<;>decide) (by split<;>decide) k2 k1 h
theorem Xjr (hA:Derives A) {s:Sta} {n:Nd} {s':Sta} (hs:startsF (nextM s).1=true) (h:squareP A s=.inr (n,s')):Rds [n] s s':=by
 unfold squareP at h
 split at h
 ·cases h
 ·rename_i p hp
  have h1:=XdT hs (n:=p.1) (s':=p.2) hp
  split at h
  ·rename_i hi
   cases h
   exact (h1.cons (.is hi (by decide) (by decide))).two (by decide) (by decide) (Nat.le_of_ble_eq_true rfl)
  split at h
  ·cases h
  ·rename_i q hq
   exact XbK (by decide) (by decide) (Nat.le_of_ble_eq_true rfl) (h1.cons (hA _ q.1 q.2 hq)) h
theorem Xh6 (hA:Derives A):Derives (atomP A):=fun s n s' h=>by
 unfold atomP at h
 split at h
 ·rename_i hs
  split at h
  ·split at h
   ·exact Xlo hA hs h
   ·exact Xjr hA hs h
  ·exact XdT hs h
 ·cases h
theorem Xh7:∀d,Derives (typeP d)
 |0=>fun s n s' h=>by cases h
 |d+1=>Xfb (Xh6 (Xh7 d))
def Deeper {α:Type} (q q':Sum (Int×Sta) α):Prop:=(∃s',q=.inl (2,s'))∨q'=q
variable {A A':Sta→Rs}
theorem Xfa (h:∀s,Deeper (A s) (A' s)) (l:List Nd) (s:Sta):Deeper (rowL A l s) (rowL A' l s):=by
 fun_induction rowL A l s with
 |case1 l s h1 e1 h2=>
  rcases h s with ⟨s',e⟩|e
  ·rw [h2] at e;cases e;exact .inl ⟨s',rfl⟩
  ·right;rw [rowL,if_pos h1,e,h2]
 |case2 l s h1 p h2 h3 ih=>
  rcases h s with ⟨s',e⟩|e
  ·rw [h2] at e;cases e
  ·rw [Xez (A:=A') (n:=p.1) (s':=p.2) h1 (by rw [e,h2]) h3];exact ih
 |case3 l s h1 p h2 h3=>exact .inl ⟨s,rfl⟩
 |case4 l s h1=>right;rw [rowL,if_neg h1]
theorem Un (h:∀s,Deeper (A s) (A' s)) (s:Sta):Deeper (rowP A s) (rowP A' s):=by
 unfold rowP
 rcases h s with ⟨s',e⟩|e
 ·rw [e];exact .inl ⟨s',rfl⟩
 ·rw [e]
  cases hq:A s with
  |inl p=>exact .inr rfl
  |inr p=>
   dsimp only
   rcases Xfa h [p.1] p.2 with ⟨s',e⟩|e
   ·rw [e];exact .inl ⟨s',rfl⟩
   ·rw [e];exact .inr rfl
theorem Xe8 (h:∀s,Deeper (A s) (A' s)) (l:List Nd) (s:Sta):Deeper (arrL A l s) (arrL A' l s):=by
 fun_induction arrL A l s with
 |case1 l s h1 e1 h2=>
  rcases Un h (nextM s).2.1 with ⟨s',e⟩|e
  ·rw [h2] at e;cases e;exact .inl ⟨s',rfl⟩
  ·right;rw [arrL,if_pos h1,e,h2]
 |case2 l s h1 p h2 h3 ih=>
  rcases Un h (nextM s).2.1 with ⟨s',e⟩|e
  ·rw [h2] at e;cases e
  ·rw [XdI (A:=A') (n:=p.1) (s':=p.2) h1 (by rw [e,h2]) h3];exact ih
 |case3 l s h1 p h2 h3=>exact .inl ⟨s,rfl⟩
 |case4 l s h1=>right;rw [arrL,if_neg h1]
theorem VP (h:∀s,Deeper (A s) (A' s)) (n:Nd) (s:Sta):Deeper (arrowsP A n s) (arrowsP A' n s):=by
 unfold arrowsP
 rcases Xe8 h [n] s with ⟨s',e⟩|e
 ·rw [e];exact .inl ⟨s',rfl⟩
 ·rw [e];exact .inr rfl
theorem Gp (h:∀s,Deeper (A s) (A' s)) (s:Sta):Deeper (wholeP A s) (wholeP A' s):=by
 unfold wholeP
 rcases Un h s with ⟨s',e⟩|e
 ·rw [e];exact .inl ⟨s',rfl⟩
 ·rw [e]
  cases hq:rowP A s with
  |inl p=>exact .inr rfl
  |inr p=>exact VP h p.1 p.2
theorem Xe9 (h:∀s,Deeper (A s) (A' s)) (s:Sta):Deeper (fullP A s) (fullP A' s):=by
 unfold fullP
 rcases Un h s with ⟨s',e⟩|e
 ·rw [e];exact .inl ⟨s',rfl⟩
 ·rw [e]
  cases hq:rowP A s with
  |inl p=>exact .inr rfl
  |inr p=>
   dsimp only
   split
   ·rcases Gp h (nextM p.2).2.1 with ⟨s',e⟩|e
    ·rw [e];exact .inl ⟨s',rfl⟩
    ·rw [e];exact .inr rfl
   ·exact VP h p.1 p.2
theorem XcQ (h:∀s,Deeper (A s) (A' s)) (l:List Nd) (s:Sta):Deeper (typesL A l s) (typesL A' l s):=by
 fun_induction typesL A l s with
 |case1 l s h1 e1 h2=>
  rcases h (nextM s).2.1 with ⟨s',e⟩|e
  ·rw [h2] at e;cases e;exact .inl ⟨s',rfl⟩
  ·right;rw [typesL,if_pos h1,e,h2]
 |case2 l s h1 p h2 h3 ih=>
  rcases h (nextM s).2.1 with ⟨s',e⟩|e
  ·rw [h2] at e;cases e
  ·rw [Xat (Y:=A') (n:=p.1) (s':=p.2) h1 (by rw [e,h2]) h3];exact ih
 |case3 l s h1 p h2 h3=>exact .inl ⟨s,rfl⟩
 |case4 l s h1=>right;rw [typesL,if_neg h1]
theorem XdP (h:∀s,Deeper (A s) (A' s)) (s:Sta):Deeper (roundP A s) (roundP A' s):=by
 unfold roundP
 split
 ·exact .inr rfl
 ·rename_i p hp
  split
  ·exact .inr rfl
  split
  ·exact .inr rfl
  split
  ·exact .inr rfl
  rcases h p.2 with ⟨s',e⟩|e
  ·rw [e];exact .inl ⟨s',rfl⟩
  ·rw [e]
   cases hq:A p.2 with
   |inl q=>exact .inr rfl
   |inr q=>
    dsimp only
    rcases XcQ h [p.1,q.1] q.2 with ⟨s',e⟩|e
    ·rw [e];exact .inl ⟨s',rfl⟩
    ·rw [e];exact .inr rfl
theorem XcP (h:∀s,Deeper (A s) (A' s)) (s:Sta):Deeper (squareP A s) (squareP A' s):=by
 unfold squareP
 split
 ·exact .inr rfl
 ·rename_i p hp
  split
  ·exact .inr rfl
  rcases h p.2 with ⟨s',e⟩|e
  ·rw [e];exact .inl ⟨s',rfl⟩
  ·rw [e];exact .inr rfl
theorem XaB (h:∀s,Deeper (A s) (A' s)) (s:Sta):Deeper (atomP A s) (atomP A' s):=by
 unfold atomP
 split
 ·split
  ·split
   ·exact XdP h s
   ·exact XcP h s
  ·exact .inr rfl
 ·exact .inr rfl
theorem XaC:∀(d d':Nat),d≤d'→∀s,Deeper (typeP d s) (typeP d' s)
 |0,d',_,s=>.inl ⟨s,rfl⟩
 |d+1,d'+1,h,s=>Gp (XaB (XaC d d' (by omega))) s
namespace Rd
variable {α β γ σ:Type}
def Ap (a b:Rd α):Prop:=∀s,(∃e t,a.run s=.inl (e,t)∧e.1=2)∨b.run s=a.run s
theorem Ap.rfl' {a:Rd α}:Ap a a:=fun _=>.inr rfl
theorem Ap.trans {a b c:Rd α} (h:Ap a b) (k:Ap b c):Ap a c:=fun s=>by
 rcases h s with h|h
 ·exact .inl h
 ·rcases k s with ⟨e,t,k,ke⟩|k
  ·exact .inl ⟨e,t,h ▸ k,ke⟩
  ·exact .inr (k.trans h)
theorem Ap.seq {m m':Rd α} {k k':α→Rd β} (h:Ap m m') (hk:∀v,Ap (k v) (k' v)):Ap (seq m k) (seq m' k'):=fun s=>by
 unfold Rd.seq
 dsimp only
 rcases h s with ⟨e,t,h,he⟩|h
 ·left;rw [h];exact ⟨e,t,rfl,he⟩
 ·rw [h]
  cases m.run s with
  |inl e=>exact .inr rfl
  |inr p=>exact hk p.1 p.2
theorem Ap.look {f f':Sta→Rd α} (h:∀s,Ap (f s) (f' s)):Ap (look f) (look f'):=fun s=>h s s
theorem Ap.ite {c:Prop} [Decidable c] {a b a' b':Rd α} (h1:Ap a a') (h2:Ap b b'):Ap (if c then a else b) (if c then a' else b'):=by split<;>assumption
theorem Ap.deep {b:Rd α}:Ap (fail eDeep) b:=fun s=>.inl ⟨eDeep,s,rfl,rfl⟩
theorem Ap.loop {body body':σ→Rd (Sum σ β)} (h:∀x,Ap (body x) (body' x)) (x:σ):Ap (loop body x) (loop body' x):=fun s=>by
 show (∃e t,iter body x s=.inl (e,t)∧e.1=2)∨iter body' x s=iter body x s
 fun_induction iter body x s with
 |case1 x s e h1=>
  rcases h x s with ⟨e',t,h2,he⟩|h2
  ·rw [h1] at h2;cases h2;exact .inl ⟨_,_,rfl,he⟩
  ·right;rw [iter,h2,h1]
 |case2 x s y s1 h1=>
  rcases h x s with ⟨e',t,h2,he⟩|h2
  ·rw [h1] at h2;cases h2
  ·right;rw [iter,h2,h1]
 |case3 x s x' s1 h1 hlt ih=>
  rcases h x s with ⟨e',t,h2,he⟩|h2
  ·rw [h1] at h2;cases h2
  ·have e:iter body' x s=iter body' x' s1:=by
    rw [iter,h2,h1];dsimp only;rw [if_pos hlt]
   rw [e];exact ih
 |case4 x s x' s1 h1 hlt=>exact .inl ⟨_,_,rfl,rfl⟩
end Rd
open Rd (Ap)
structure LowAp (L L':Low):Prop where
 atom:Ap L.atom L'.atom
 exp:Ap L.exp L'.exp
 ops:Ap L.ops L'.ops
 decls:Ap L.decls L'.decls
 stmts:Ap L.stmts L'.stmts
 alts:Ap L.alts L'.alts
 brack:∀o,Ap (L.brack o) (L'.brack o)
 list:∀o,Ap (L.list o) (L'.list o)
section
variable {L L':Low} {A A' B B' C C' D D' E E':Rd Nd}
theorem Xc2 (h:Ap A A') {p:Nd→Bool}:Ap (formedR A p) (formedR A' p):=Ap.look fun s=>Ap.seq h fun n=>Ap.rfl'
theorem XkV (h:Ap A A') {b:Bool}:Ap (erowR A b) (erowR A' b):=Ap.loop (fun l=>Ap.seq Ap.rfl' fun l=>Ap.seq h fun n=>Ap.rfl') _
theorem Xbp (h:Ap A A'):Ap (opsR A) (opsR A'):=Ap.seq (XkV h) fun _=>Ap.rfl'
theorem XeV (h:Ap A A') {n:Nd}:Ap (typedR A n) (typedR A' n):=Ap.look fun s=>Ap.ite (Ap.seq Ap.rfl' fun c=>Ap.seq h fun t=>Ap.rfl') Ap.rfl'
theorem ap_exp (h:Ap A A') (k:Ap B B'):Ap (expR A B) (expR A' B'):=Ap.seq (Xbp h) fun _=>XeV k
theorem XeT (h:LowAp L L') {a b:Nd}:Ap (localR L a b) (localR L' a b):=Ap.seq Ap.rfl' fun _=>Ap.seq h.exp fun _=>Ap.rfl'
theorem Xi5 (h:LowAp L L') (k:Ap A A'):Ap (lambdaR L A) (lambdaR L' A'):=
 have hs:∀l,Ap (lambdaS A l) (lambdaS A' l):=fun l=>Ap.seq (Xc2 k) fun _=>Ap.rfl'
 Ap.seq Ap.rfl' fun b=>Ap.seq (Ap.loop (fun l=>Ap.ite (hs l) (Ap.look fun s=>Ap.ite (hs l) Ap.rfl')) _) fun l=>Ap.seq Ap.rfl' fun a=>Ap.seq h.exp fun _=>Ap.rfl'
theorem XhU (h:LowAp L L') {l:List Nd} {w:List UInt8}:Ap (partR L l w) (partR L' l w):=Ap.seq Ap.rfl' fun _=>Ap.seq Ap.rfl' fun _=>Ap.seq h.exp fun _=>Ap.rfl'
theorem Xi3 (h:LowAp L L'):Ap (branchR L) (branchR L'):=Ap.seq Ap.rfl' fun _=>Ap.seq h.exp fun _=>Ap.seq (XhU h) fun _=>Ap.seq (XhU h) fun _=>Ap.rfl'
theorem ap_case (h:LowAp L L'):Ap (caseR L) (caseR L'):=Ap.seq Ap.rfl' fun _=>Ap.seq h.exp fun _=>Ap.seq Ap.rfl' fun _=>Ap.seq h.alts fun _=>Ap.rfl'
theorem XkX (h:LowAp L L'):Ap (stepsR L) (stepsR L'):=Ap.seq Ap.rfl' fun _=>Ap.seq h.stmts fun _=>Ap.rfl'
theorem Xbo (k:Ap A A'):Ap (atomsR A) (atomsR A'):=Ap.seq k fun n=>Ap.seq (Ap.loop (fun l=>Ap.look fun s=>Ap.ite (Ap.seq k fun _=>Ap.rfl') Ap.rfl') _) fun _=>Ap.rfl'
theorem ap_let (h:LowAp L L'):Ap (letR L) (letR L'):=Ap.seq Ap.rfl' fun _=>Ap.seq h.decls fun _=>XeT h
theorem XgE (h:LowAp L L') (k:Ap A A'):Ap (operandR L A) (operandR L' A'):=Ap.look fun s=>Ap.ite (Ap.ite (Xi5 h k) (Xbo k)) (Ap.ite (Ap.ite (ap_let h) (Ap.ite (Xi3 h) (Ap.ite (ap_case h) (Ap.ite (XkX h) (Xbo k))))) (Xbo k))
theorem Xc3 (h:LowAp L L') {o:Nd}:Ap (roundC L o) (roundC L' o):=Ap.look fun s=>Ap.ite (Ap.ite (h.brack o) (Ap.seq Ap.rfl' fun _=>Ap.seq h.ops fun _=>Ap.rfl')) (h.brack o)
theorem Xi7 (h:LowAp L L') {o:Nd}:Ap (roundB L o) (roundB L' o):=Ap.look fun s=>Ap.ite (Ap.ite Ap.rfl' (Xc3 h)) (Xc3 h)
theorem XkU (h:LowAp L L'):Ap (roundR L) (roundR L'):=Ap.seq Ap.rfl' fun o=>Ap.look fun s=>Ap.ite Ap.rfl' (Ap.ite Ap.rfl' (Xi7 h))
theorem Xi8 (h:LowAp L L'):Ap (squareR L) (squareR L'):=Ap.seq Ap.rfl' fun o=>Ap.look fun s=>Ap.ite Ap.rfl' (h.list o)
theorem ap_base (h:LowAp L L'):Ap (baseR L) (baseR L'):=Ap.look fun s=>Ap.ite (Ap.ite (Ap.ite (XkU h) (Xi8 h)) (Ap.ite Ap.rfl' (Ap.ite (Ap.seq Ap.rfl' fun _=>Ap.seq h.atom fun _=>Ap.rfl')
 (Ap.seq Ap.rfl' fun n=>Ap.ite (Ap.look fun s=>Ap.ite (Ap.seq Ap.rfl' fun _=>Ap.seq h.atom fun _=>Ap.rfl') Ap.rfl') Ap.rfl')))) Ap.rfl'
theorem Xi6 (h:LowAp L L') {n:Nd}:Ap (recordR L n) (recordR L' n):=
 have hs:∀l,Ap (fieldS L l) (fieldS L' l):=fun l=>Ap.seq Ap.rfl' fun _=>Ap.seq Ap.rfl' fun _=>Ap.seq h.exp fun _=>Ap.rfl'
 Ap.seq Ap.rfl' fun _=>Ap.seq (Ap.loop (fun l=>Ap.look fun s=>Ap.ite (Ap.ite (hs l) Ap.rfl') (hs l)) _) fun _=>Ap.rfl'
theorem Xa1 (h:LowAp L L'):Ap (atomR L) (atomR L'):=Ap.seq (ap_base h) fun n=>Ap.loop (fun n=>Ap.look fun s=>Ap.ite (Ap.seq (Xi6 h) fun _=>Ap.rfl') Ap.rfl') _
theorem XkS (h:Ap A A') (k:Ap B B') (j:Ap C C') {o:Nd}:Ap (bracketedR A B C o) (bracketedR A' B' C' o):=Ap.seq (XkV h) fun p=>Ap.ite Ap.rfl' (Ap.seq (XeV k) fun e=>
 Ap.seq (Ap.loop (fun l=>Ap.look fun s=>Ap.ite (Ap.seq Ap.rfl' fun _=>Ap.seq j fun _=>Ap.rfl') Ap.rfl') _) fun _=>Ap.rfl')
theorem XeU (h:Ap A A') {l:List Nd}:Ap (qualsR A l) (qualsR A' l):=Ap.seq Ap.rfl' fun b=>Ap.seq h fun t=>Ap.loop (fun l=>Ap.look fun s=>Ap.ite (Ap.seq Ap.rfl' fun _=>Ap.seq h fun _=>Ap.rfl') Ap.rfl') _
theorem ap_list (h:Ap A A') (k:Ap B B') {o:Nd}:Ap (listR A B o) (listR A' B' o):=
 have hc:∀l,Ap (listC A l) (listC A' l):=fun l=>Ap.look fun s=>Ap.ite (Ap.seq Ap.rfl' fun _=>Ap.seq h fun _=>Ap.rfl') Ap.rfl'
 Ap.seq h fun e=>Ap.look fun s=>Ap.ite (Ap.seq (XeU k) fun _=>Ap.rfl') (Ap.seq (Ap.loop (fun l=>Ap.ite (Ap.look fun s=>Ap.ite (Ap.seq Ap.rfl' fun _=>Ap.look fun s=>Ap.ite Ap.rfl' (Ap.seq h fun _=>Ap.rfl')) (hc l)) (hc l)) _) fun _=>Ap.rfl')
theorem XhR (h:Ap A A') {n:Nd}:Ap (bindR A n) (bindR A' n):=Ap.look fun s=>Ap.ite (Ap.ite (Ap.seq Ap.rfl' fun _=>Ap.seq h fun _=>Ap.rfl') Ap.rfl') Ap.rfl'
theorem ap_stmt (h:LowAp L L') (k:Ap A A'):Ap (stmtR L A) (stmtR L' A'):=Ap.look fun s=>Ap.ite (Ap.seq Ap.rfl' fun _=>Ap.seq h.decls fun _=>Ap.look fun s=>Ap.ite (Ap.seq (XeT h) fun _=>XhR k) Ap.rfl') (Ap.seq k fun _=>XhR k)
theorem XkT (h:LowAp L L') (k:Ap A A') (j:Ap B B') {m:List UInt8}:Ap (rhsR L A B m) (rhsR L' A' B' m):=
 have hs:∀l,Ap (guardS A B m l) (guardS A' B' m l):=fun l=>Ap.seq (XeU j) fun _=>Ap.seq Ap.rfl' fun _=>Ap.seq k fun _=>Ap.rfl'
 have hb:∀l,Ap (rhsB L A B m l) (rhsB L' A' B' m l):=fun l=>Ap.seq (Ap.loop (fun l=>Ap.ite (hs l) (Ap.ite (Ap.look fun s=>Ap.ite (hs l) Ap.rfl') Ap.rfl')) _) fun _=>Ap.look fun s=>Ap.ite (Ap.seq Ap.rfl' fun _=>Ap.seq h.decls fun _=>Ap.rfl') Ap.rfl'
 Ap.look fun s=>Ap.ite (Ap.seq Ap.rfl' fun _=>Ap.seq k fun _=>hb _) (Ap.ite (hb _) Ap.rfl')
theorem ap_alt (h:LowAp L L') (i:Ap A A') (k:Ap B B') (j:Ap C C'):Ap (altR L A B C) (altR L' A' B' C'):=Ap.seq i fun n=>Ap.ite (Ap.seq (XkT h k j) fun _=>Ap.rfl') Ap.rfl'
theorem XkW (h:Ap A A') (k:Ap B B') {n:Nd}:Ap (sigR A B n) (sigR A' B' n):=Ap.ite (Ap.seq (Ap.loop (fun l=>Ap.look fun s=>Ap.ite (Ap.seq Ap.rfl' fun _=>Ap.seq (Xc2 h) fun _=>Ap.rfl') Ap.rfl') _) fun _=>Ap.seq Ap.rfl' fun _=>Ap.seq k fun _=>Ap.rfl') Ap.rfl'
theorem XhS (h:LowAp L L') (i:Ap A A') (j:Ap B B') (k:Ap C C') (l:Ap D D') (m:Ap E E'):Ap (declR L A B C D E) (declR L' A' B' C' D' E'):=
 Ap.look fun s=>Ap.ite Ap.rfl' (Ap.seq j fun n=>Ap.look fun s=>Ap.ite (XkW i m) (Ap.ite (XkW i m) (Ap.ite (Ap.seq (XkT h k l) fun _=>Ap.rfl') Ap.rfl')))
theorem Gi (h:Ap A A') {p:Tk→Bool}:Ap (blockR p A) (blockR p A'):=
 have hb:∀f l,Ap (blockB p A f l) (blockB p A' f l):=fun f l=>Ap.seq Ap.rfl' fun _=>Ap.look fun s=>Ap.seq Ap.rfl' fun e=>Ap.ite Ap.rfl' (Ap.seq h fun n=>Ap.rfl')
 Ap.look fun s=>Ap.ite (Ap.seq Ap.rfl' fun _=>Ap.seq (Ap.loop (hb _) _) fun _=>Ap.rfl') (Ap.seq Ap.rfl' fun _=>Ap.seq (Ap.loop (hb _) _) fun _=>Ap.rfl')
theorem Hf (h:LowAp L L'):Ap (opdL L) (opdL L'):=XgE h (Xa1 h)
theorem Uk (f:Ap A A') (h:LowAp L L'):Ap (expL A L) (expL A' L'):=ap_exp (Hf h) f
theorem UJ (f:Ap A A') (h:LowAp L L'):Ap (stmtL A L) (stmtL A' L'):=ap_stmt h (Uk f h)
theorem ap_up (f:Ap A A') (h:LowAp L L'):LowAp (upL A L) (upL A' L') where
 atom:=Xa1 h
 exp:=Uk f h
 ops:=Xbp (Hf h)
 decls:=Gi (XhS h (Xa1 h) (Xbp (Hf h)) (Uk f h) (UJ f h) f)
 stmts:=Gi (UJ f h)
 alts:=Gi (ap_alt h (Xbp (Hf h)) (Uk f h) (UJ f h))
 brack:=fun o=>XkS (Hf h) f (Uk f h)
 list:=fun o=>ap_list (Uk f h) (UJ f h)
theorem XhT {d d':Nat} (h:d≤d'):Ap (fullL d) (fullL d'):=fun s=>by
 have hb:∀d,Bads (fullP (atomP (typeP d))):=fun d=>Xc5 (Hr (JO d))
 rcases Xe9 (XaB (XaC (d - 1) (d' - 1) (by omega))) s with ⟨t,e⟩|e
 ·left;exact ⟨_,t,Ve (hb _) e,rfl⟩
 ·right
  cases hq:fullP (atomP (typeP (d - 1))) s with
  |inl p=>obtain ⟨x,t⟩:=p;rw [hq] at e;exact (Ve (hb _) e).trans (Ve (hb _) hq).symm
  |inr p=>rw [hq] at e;exact (Uw e).trans (Uw hq).symm
theorem Xmv:∀{d d':Nat},d≤d'→LowAp (lowR d) (lowR d')
 |0,d',_=>⟨Ap.deep,Ap.deep,Ap.deep,Ap.deep,Ap.deep,Ap.deep,fun _=>Ap.deep,fun _=>Ap.deep⟩
 |d+1,d'+1,h=>ap_up (XhT (by omega)) (Xmv (by omega))
end
def noE:Er→Sta→Prop:=fun _ _=>True
def Dv (A:Rd Nd):Prop:=∀s,Rd.wp A s (fun n s'=>Rds [n] s s') noE
theorem Dv.at {A:Rd Nd} (h:Dv A) {s s':Sta} {n:Nd} (e:A.run s=.inr (n,s')):Rds [n] s s':=by
 have:=h s
 unfold Rd.wp at this
 rw [e] at this;exact this
theorem Dv.of {A:Rd Nd} (h:∀s n s',A.run s=.inr (n,s')→Rds [n] s s'):Dv A:=fun s=>Rd.Xgz (fun n s' e=>h s n s' e) (fun _ _ _=>trivial)
theorem Dv.size {A:Rd Nd} (h:Dv A) {s s':Sta} {n:Nd} (e:A.run s=.inr (n,s')):n.size+4*mu s'≤4*mu s:=(h.at e).size1
theorem XQ {c:Prop} [Decidable c] {P Q:Prop} (h1:c→P) (h2:¬c→Q):if c then P else Q:=by
 split
 ·exact h1 ‹_›
 ·exact h2 ‹_›
structure Real (s:Sta):Prop where
 ok:(nextM s).2.2=0
 lt:(nextM s).1.kind<18
 ne:(nextM s).1.kind≠0
section
variable {A B C:Rd Nd} {s s0 s1 s2 s':Sta} {Q:Nd→Sta→Prop} {L:Low}
theorem XP {k:Int} {x:List UInt8} (h:isF s k x=true) (h0:k≠0) (h1:k<18):Real s:=by
 have e:(nextM s).1.kind=k:=by
  unfold isF at h
  simp only [Bool.and_eq_true,beq_iff_eq] at h
  exact h.1
 exact ⟨Jp h h0,by omega,by omega⟩
theorem GU (h:(nextM s).1.kind≠0) (h1:(nextM s).1.kind<18):Real s:=⟨QF h,h1,h⟩
theorem QG {k:Int} (h:((nextM s).1.kind==k)=true) (h0:k≠0) (h1:k<18):Real s:=by
 rw [beq_iff_eq] at h;exact GU (by omega) (by omega)
theorem QZ (h:atomicF (nextM s).1=true):Real s:=by
 unfold atomicF at h
 simp only [Bool.or_eq_true,Bool.and_eq_true,beq_iff_eq] at h
 exact GU (by omega) (by omega)
theorem Zb (h:symT (nextM s).1=true):Real s:=by
 unfold symT at h
 simp only [Bool.or_eq_true,Bool.and_eq_true,beq_iff_eq] at h
 exact GU (by omega) (by omega)
theorem Za (h:fixesF (nextM s).1=true):Real s:=by
 unfold fixesF at h
 simp only [Bool.or_eq_true,Bool.and_eq_true,beq_iff_eq] at h
 exact GU (by omega) (by omega)
theorem Xaf {t:Tk} (h:semiF t=true):idleT t=true:=by
 unfold semiF at h
 unfold idleT
 simp only [Bool.or_eq_true,Bool.and_eq_true,beq_iff_eq] at h ⊢
 rcases h with h|h
 ·exact .inl (.inl (.inr h))
 ·exact .inr ⟨h.1,.inr h.2⟩
theorem dvA (hA:Dv A) (k:∀n s1,Rds [n] s s1→Q n s1):Rd.wp A s Q noE:=Rd.wp_mono (hA s) (fun n s1 _ h=>k n s1 h) (fun _ _ _ _=>trivial)
theorem dvT (hr:Real s) (k:Rds [leafT (nextM s).1] s (nextM s).2.1→Q (leafT (nextM s).1) (nextM s).2.1):Rd.wp takeR s Q noE:=by
 unfold Rd.wp
 rw [Ql hr.ok]
 exact k (.tok hr.ok hr.lt hr.ne)
theorem dvW {k:Int} {x:List UInt8} (h0:k≠0) (h1:k<18) (kk:∀n s1,Rds [n] s s1→Q n s1):Rd.wp (wantR k x) s Q noE:=by
 unfold wantR
 rw [Rd.Xi,Rd.Xy]
 exact XQ (fun e=>dvT (XP e h0 h1) (kk _ _)) (fun _=>trivial)
theorem dvK {ks:List Int} (h0:(ks.all fun k=>decide (k≠0)&&decide (k<18))=true) (kk:∀n s1,Rds [n] s s1→Q n s1):Rd.wp (kindR ks) s Q noE:=by
 unfold kindR
 rw [Rd.Xi,Rd.Xy]
 refine XQ (fun e=>?_) (fun _=>trivial)
 have:=List.all_eq_true.1 h0 _ (List.contains_iff_mem.1 e)
 simp only [Bool.and_eq_true,decide_eq_true_eq] at this
 exact dvT (GU this.1 this.2) (kk _ _)
theorem dvS {Q:Unit→Sta→Prop} (hi:idleT (nextM s).1=true) (k:Rds [] s (nextM s).2.1→Q () (nextM s).2.1):Rd.wp skipR s Q noE:=by
 have e:=QF (Gx hi).1
 unfold skipR
 rw [Rd.wp_seq]
 unfold Rd.wp
 rw [Ql e]
 exact k (.skip e hi)
theorem dvLoop {σ β:Type} {body:σ→Rd (Sum σ β)} {P:σ→Sta→Prop} {Q:β→Sta→Prop} (hb:∀x s,P x s→Rd.wp (body x) s (fun r s'=>match r with| .inl x'=>P x' s'| .inr y=>Q y s') noE) {x:σ} {s:Sta} (h0:P x s):Rd.wp (Rd.loop body x) s Q noE:=by
 have:∀y s',(Rd.loop body x).run s=.inr (y,s')→Q y s':=by
  show ∀y s',Rd.iter body x s=.inr (y,s')→Q y s'
  fun_induction Rd.iter body x s with
  |case1 x s e h=>intro y s' h';cases h'
  |case2 x s y s1 h=>
   intro y' s' h';cases h'
   have:=hb x s h0
   unfold Rd.wp at this
   rw [h] at this;exact this
  |case3 x s x' s1 h hlt ih=>
   have:=hb x s h0
   unfold Rd.wp at this
   rw [h] at this
   exact ih this
  |case4 x s x' s1 h hlt=>intro y s' h';cases h'
 exact Rd.Xgz this (fun _ _ _=>trivial)
theorem Rds.leaf1 {k:Int} {t:Tk} (h:Rds [leafT t] s s') (hk:k≠1) (h30:k≠30):Rds [nodeK k [leafT t]] s s':=.node h hk (by
 have:sls [leafT t]=3:=rfl
 unfold slk;rw [if_neg hk,if_neg h30,this];decide)
theorem Rds.gd {l:List Nd} (h:Rds l s s') (hl:3≤l.length):Rds [nodeK 30 l] s s':=.node h (by decide) (by have:=Xbh (l:=l);have:slk 30=2:=rfl;omega)
theorem Rds.cons2 {n m:Nd} {l:List Nd} (h:Rds [n] s s1) (k:Rds (m::l) s1 s2):Rds (n::m::l) s s2:=.app h k
theorem Rds.pass {l:List Nd} (h:Rds l s s1) (k:Rds [] s1 s2):Rds l s s2:=by
 have:=Rds.app h k
 rwa [List.append_nil] at this
theorem Rds.pre {l:List Nd} (h:Rds [] s s1) (k:Rds l s1 s2):Rds l s s2:=Rds.app h k
theorem Qd {α:Type} {l:List α} {a b:α}:2≤(l++[a]++[b]).length:=by simp only [List.length_append,List.length_singleton];omega
structure DvL (L:Low):Prop where
 atom:Dv L.atom
 exp:Dv L.exp
 ops:Dv L.ops
 decls:Dv L.decls
 stmts:Dv L.stmts
 alts:Dv L.alts
 brack:∀o s,Rd.wp (L.brack o) s (fun n s'=>∀s0,Rds [o] s0 s→Rds [n] s0 s') noE
 list:∀o s,Rd.wp (L.list o) s (fun n s'=>∀s0,Rds [o] s0 s→Rds [n] s0 s') noE
theorem dvO {o:Nd} {B:Nd→Rd Nd} (hB:∀o s,Rd.wp (B o) s (fun n s'=>∀s0,Rds [o] s0 s→Rds [n] s0 s') noE) (h0:Rds [o] s0 s) (k:∀n s1,Rds [n] s0 s1→Q n s1):Rd.wp (B o) s Q noE:=
 Rd.wp_mono (hB o s) (fun n s1 _ h=>k n s1 (h s0 h0)) (fun _ _ _ _=>trivial)
theorem XdU:Dv operR:=fun s=>by
 simp only [operR,Rd.Xi,Rd.Xy,Rd.wp_seq,Rd.wp_ret]
 repeat' (first
  |exact trivial
  |assumption
  |refine XQ (fun e=>?_) (fun e=>?_)
  |refine dvT (XP (by assumption) (by decide) (by decide)) (fun hn=>?_)
  |refine dvT (QG (by assumption) (by decide) (by decide)) (fun hn=>?_)
  |refine dvT (QZ (by assumption)) (fun hn=>?_)
  |refine dvT (Zb (by assumption)) (fun hn=>?_)
  |refine dvT (Za (by assumption)) (fun hn=>?_)
  |refine dvT (by assumption) (fun hn=>?_)
  |refine dvW (by decide) (by decide) (fun n s1 hn=>?_)
  |refine dvK (by decide) (fun n s1 hn=>?_)
  |refine dvA (by assumption) (fun n s1 hn=>?_)
  |exact Rds.leaf1 (by assumption) (by decide) (by decide)
  |refine Rds.two ?_ (by decide) (by decide) (by first|exact Nat.le_of_ble_eq_true rfl|exact Qd|(simp only [List.length_append,List.length_cons,List.length_nil];omega))
  |apply Rds.cons2
  |apply Rds.app)
theorem Hw {p:Nd→Bool} (hA:Dv A):Dv (formedR A p):=fun s=>by
 simp only [formedR,Rd.Xi,Rd.Xy,Rd.wp_seq,Rd.wp_ret,Rd.Xaw]
 repeat' (first
  |exact trivial
  |assumption
  |refine XQ (fun e=>?_) (fun e=>?_)
  |refine dvT (XP (by assumption) (by decide) (by decide)) (fun hn=>?_)
  |refine dvT (QG (by assumption) (by decide) (by decide)) (fun hn=>?_)
  |refine dvT (QZ (by assumption)) (fun hn=>?_)
  |refine dvT (Zb (by assumption)) (fun hn=>?_)
  |refine dvT (Za (by assumption)) (fun hn=>?_)
  |refine dvT (by assumption) (fun hn=>?_)
  |refine dvW (by decide) (by decide) (fun n s1 hn=>?_)
  |refine dvK (by decide) (fun n s1 hn=>?_)
  |refine dvA (by assumption) (fun n s1 hn=>?_)
  |refine Rds.two ?_ (by decide) (by decide) (by first|exact Nat.le_of_ble_eq_true rfl|exact Qd|(simp only [List.length_append,List.length_cons,List.length_nil];omega))
  |apply Rds.cons2
  |apply Rds.app)
theorem Xlr {l:List Nd} {Q:List Nd→Sta→Prop} (h0:Rds l s0 s) (k:∀l s1,Rds l s0 s1→Q l s1):Rd.wp (minusR l) s Q noE:=by
 refine dvLoop (P:=fun l s=>Rds l s0 s) (fun l s h0=>?_) h0
 simp only [minusB,Rd.Xi,Rd.Xy,Rd.wp_seq,Rd.wp_ret]
 repeat' (first
  |exact trivial
  |assumption
  |refine XQ (fun e=>?_) (fun e=>?_)
  |refine dvT (XP (by assumption) (by decide) (by decide)) (fun hn=>?_)
  |refine dvT (QG (by assumption) (by decide) (by decide)) (fun hn=>?_)
  |refine dvT (QZ (by assumption)) (fun hn=>?_)
  |refine dvT (Zb (by assumption)) (fun hn=>?_)
  |refine dvT (Za (by assumption)) (fun hn=>?_)
  |refine dvT (by assumption) (fun hn=>?_)
  |refine dvW (by decide) (by decide) (fun n s1 hn=>?_)
  |refine dvK (by decide) (fun n s1 hn=>?_)
  |refine dvA (by assumption) (fun n s1 hn=>?_)
  |exact Rds.snoc h0 (Rds.leaf1 (by assumption) (by decide) (by decide))
  |exact k _ _ h0
  |refine Rds.two ?_ (by decide) (by decide) (by first|exact Nat.le_of_ble_eq_true rfl|exact Qd|(simp only [List.length_append,List.length_cons,List.length_nil];omega))
  |apply Rds.cons2
  |apply Rds.app)
theorem Xlu {b:Bool} {Q:List Nd×Bool→Sta→Prop} (hA:Dv A) (k:∀l b s1,1≤l.length→(b=true→2≤l.length∧isF s1 15 [41]=true)→Rds l s s1→Q (l,b) s1):Rd.wp (erowR A b) s Q noE:=by
 refine dvLoop (P:=fun l s1=>Rds l s s1) (fun l s1 h0=>?_) (Rds.nil s)
 simp only [rowB,Rd.Xi,Rd.Xy,Rd.wp_seq,Rd.wp_ret]
 refine Xlr h0 (fun l s1 h0=>?_)
 have ho:=XdU
 refine dvA hA (fun n s2 hn=>?_)
 refine XQ (fun e=>?_) (fun e=>k _ _ _ (by rw [List.length_append,List.length_singleton];omega) (fun h=>by cases h) (h0.snoc hn))
 refine dvA ho (fun o s3 hn2=>?_)
 exact XQ (fun _=>XQ (fun e=>k _ _ _ (Nat.le_trans (by decide) Qd) (fun _=>⟨Qd,e⟩) ((h0.snoc hn).snoc hn2)) fun e=>(h0.snoc hn).snoc hn2) fun e=>(h0.snoc hn).snoc hn2
theorem XbO (hA:Dv A):Dv (opsR A):=fun s=>by
 simp only [opsR,Rd.wp_seq,Rd.wp_ret]
 exact Xlu hA fun l b s1 h1 _ h=>h.one (by decide) (by decide) h1
theorem Xff {n:Nd} (hA:Dv A) (h0:Rds [n] s0 s) (k:∀n s1,Rds [n] s0 s1→Q n s1):Rd.wp (typedR A n) s Q noE:=by
 simp only [typedR,Rd.Xi,Rd.Xy,Rd.wp_seq,Rd.wp_ret]
 repeat' (first
  |exact trivial
  |assumption
  |refine XQ (fun e=>?_) (fun e=>?_)
  |refine dvT (XP (by assumption) (by decide) (by decide)) (fun hn=>?_)
  |refine dvT (QG (by assumption) (by decide) (by decide)) (fun hn=>?_)
  |refine dvT (QZ (by assumption)) (fun hn=>?_)
  |refine dvT (Zb (by assumption)) (fun hn=>?_)
  |refine dvT (Za (by assumption)) (fun hn=>?_)
  |refine dvT (by assumption) (fun hn=>?_)
  |refine dvW (by decide) (by decide) (fun n s1 hn=>?_)
  |refine dvK (by decide) (fun n s1 hn=>?_)
  |refine dvA (by assumption) (fun n s1 hn=>?_)
  |refine k _ _ ?_
  |refine Rds.two ?_ (by decide) (by decide) (by first|exact Nat.le_of_ble_eq_true rfl|exact Qd|(simp only [List.length_append,List.length_cons,List.length_nil];omega))
  |apply Rds.cons2
  |apply Rds.app)
theorem dv_exp (hA:Dv A) (hB:Dv B):Dv (expR A B):=fun s=>by
 simp only [expR,Rd.wp_seq]
 exact dvA (XbO hA) fun n s1 h=>Xff hB h fun n s1 h=>h
theorem Xfd {a b:Nd} (hL:DvL L) (h0:Rds [a,b] s0 s) (k:∀n s1,Rds [n] s0 s1→Q n s1):Rd.wp (localR L a b) s Q noE:=by
 have h1:=hL.exp
 simp only [localR,Rd.wp_seq,Rd.wp_ret]
 repeat' (first
  |exact trivial
  |assumption
  |refine XQ (fun e=>?_) (fun e=>?_)
  |refine dvT (XP (by assumption) (by decide) (by decide)) (fun hn=>?_)
  |refine dvT (QG (by assumption) (by decide) (by decide)) (fun hn=>?_)
  |refine dvT (QZ (by assumption)) (fun hn=>?_)
  |refine dvT (Zb (by assumption)) (fun hn=>?_)
  |refine dvT (Za (by assumption)) (fun hn=>?_)
  |refine dvT (by assumption) (fun hn=>?_)
  |refine dvW (by decide) (by decide) (fun n s1 hn=>?_)
  |refine dvK (by decide) (fun n s1 hn=>?_)
  |refine dvA (by assumption) (fun n s1 hn=>?_)
  |exact k _ _ (Rds.two (l:=[a,b,_,_]) (Rds.app h0 (Rds.cons2 (by assumption) (by assumption))) (by decide) (by decide) (Nat.le_of_ble_eq_true rfl))
  |refine Rds.two ?_ (by decide) (by decide) (by first|exact Nat.le_of_ble_eq_true rfl|exact Qd|(simp only [List.length_append,List.length_cons,List.length_nil];omega))
  |apply Rds.cons2
  |apply Rds.app)
theorem Xjw (hL:DvL L) (hA:Dv A) (hr:Real s) (k:∀n s1,Rds [n] s s1→Q n s1):Rd.wp (lambdaR L A) s Q noE:=by
 have h1:=hL.exp
 simp only [lambdaR,Rd.wp_seq]
 refine dvT hr fun h0=>?_
 refine dvLoop (P:=fun l s1=>Rds l s s1) (fun l s1 h0=>?_) h0
 ·have h2:=Hw (p:=mayFP) hA
  simp only [lambdaB,lambdaS,Rd.Xi,Rd.Xy,Rd.wp_seq,Rd.wp_ret]
  repeat' (first
   |exact trivial
   |assumption
   |refine XQ (fun e=>?_) (fun e=>?_)
   |refine dvT (XP (by assumption) (by decide) (by decide)) (fun hn=>?_)
   |refine dvT (QG (by assumption) (by decide) (by decide)) (fun hn=>?_)
   |refine dvT (QZ (by assumption)) (fun hn=>?_)
   |refine dvT (Zb (by assumption)) (fun hn=>?_)
   |refine dvT (Za (by assumption)) (fun hn=>?_)
   |refine dvT (by assumption) (fun hn=>?_)
   |refine dvW (by decide) (by decide) (fun n s1 hn=>?_)
   |refine dvK (by decide) (fun n s1 hn=>?_)
   |refine dvA (by assumption) (fun n s1 hn=>?_)
   |exact k _ _ (Rds.two (Rds.snoc (Rds.snoc h0 (by assumption)) (by assumption)) (by decide) (by decide) Qd)
   |refine Rds.two ?_ (by decide) (by decide) (by first|exact Nat.le_of_ble_eq_true rfl|exact Qd|(simp only [List.length_append,List.length_cons,List.length_nil];omega))
   |apply Rds.cons2
   |apply Rds.app)
theorem dv_semi {w:List UInt8} {Q:Unit→Sta→Prop} (k:∀s1,Rds [] s s1→Q () s1):Rd.wp (semiR w) s Q noE:=by
 simp only [semiR,Rd.Xi,Rd.Xy,Rd.wp_ret]
 exact XQ (fun e=>XQ (fun _=>dvS (Xaf e) (k _)) fun _=>k _ (.nil _)) fun _=>k _ (.nil _)
theorem Xic {l:List Nd} {w:List UInt8} {Q:List Nd→Sta→Prop} (hL:DvL L) (h0:Rds l s0 s) (k:∀a e s1,Rds (l++[a]++[e]) s0 s1→Q (l++[a]++[e]) s1):Rd.wp (partR L l w) s Q noE:=by
 have h1:=hL.exp
 simp only [partR,Rd.wp_seq,Rd.wp_ret]
 refine dv_semi fun s1 hs=>?_
 have h0:=h0.pass hs
 repeat' (first
  |exact trivial
  |assumption
  |refine XQ (fun e=>?_) (fun e=>?_)
  |refine dvT (XP (by assumption) (by decide) (by decide)) (fun hn=>?_)
  |refine dvT (QG (by assumption) (by decide) (by decide)) (fun hn=>?_)
  |refine dvT (QZ (by assumption)) (fun hn=>?_)
  |refine dvT (Zb (by assumption)) (fun hn=>?_)
  |refine dvT (Za (by assumption)) (fun hn=>?_)
  |refine dvT (by assumption) (fun hn=>?_)
  |refine dvW (by decide) (by decide) (fun n s1 hn=>?_)
  |refine dvK (by decide) (fun n s1 hn=>?_)
  |refine dvA (by assumption) (fun n s1 hn=>?_)
  |refine k _ _ _ ?_
  |refine Rds.two ?_ (by decide) (by decide) (by first|exact Nat.le_of_ble_eq_true rfl|exact Qd|(simp only [List.length_append,List.length_cons,List.length_nil];omega))
  |apply Rds.cons2
  |apply Rds.app)
theorem Xjt (hL:DvL L) (hr:Real s) (k:∀n s1,Rds [n] s s1→Q n s1):Rd.wp (branchR L) s Q noE:=by
 have h1:=hL.exp
 simp only [branchR,Rd.wp_seq,Rd.wp_ret]
 refine dvT hr fun h0=>?_
 refine dvA h1 fun c s1 hc=>?_
 exact Xic hL (h0.cons hc) fun a e s2 h2=>Xic hL h2 fun a e s3 h3=>k _ _ (h3.two (by decide) (by decide) Qd)
theorem dv_case (hL:DvL L) (hr:Real s) (k:∀n s1,Rds [n] s s1→Q n s1):Rd.wp (caseR L) s Q noE:=by
 have h1:=hL.exp
 have h2:=hL.alts
 simp only [caseR,Rd.wp_seq,Rd.wp_ret]
 refine dvT hr fun h0=>?_
 repeat' (first
  |exact trivial
  |assumption
  |refine XQ (fun e=>?_) (fun e=>?_)
  |refine dvT (XP (by assumption) (by decide) (by decide)) (fun hn=>?_)
  |refine dvT (QG (by assumption) (by decide) (by decide)) (fun hn=>?_)
  |refine dvT (QZ (by assumption)) (fun hn=>?_)
  |refine dvT (Zb (by assumption)) (fun hn=>?_)
  |refine dvT (Za (by assumption)) (fun hn=>?_)
  |refine dvT (by assumption) (fun hn=>?_)
  |refine dvW (by decide) (by decide) (fun n s1 hn=>?_)
  |refine dvK (by decide) (fun n s1 hn=>?_)
  |refine dvA (by assumption) (fun n s1 hn=>?_)
  |refine k _ _ ?_
  |refine Rds.two ?_ (by decide) (by decide) (by first|exact Nat.le_of_ble_eq_true rfl|exact Qd|(simp only [List.length_append,List.length_cons,List.length_nil];omega))
  |apply Rds.cons2
  |apply Rds.app)
theorem Xlx (hL:DvL L) (hr:Real s) (k:∀n s1,Rds [n] s s1→Q n s1):Rd.wp (stepsR L) s Q noE:=by
 have h1:=hL.stmts
 simp only [stepsR,Rd.wp_seq,Rd.wp_ret,Rd.Xy,Rd.Zf]
 refine dvT hr fun h0=>?_
 repeat' (first
  |exact trivial
  |assumption
  |refine XQ (fun e=>?_) (fun e=>?_)
  |refine dvT (XP (by assumption) (by decide) (by decide)) (fun hn=>?_)
  |refine dvT (QG (by assumption) (by decide) (by decide)) (fun hn=>?_)
  |refine dvT (QZ (by assumption)) (fun hn=>?_)
  |refine dvT (Zb (by assumption)) (fun hn=>?_)
  |refine dvT (Za (by assumption)) (fun hn=>?_)
  |refine dvT (by assumption) (fun hn=>?_)
  |refine dvW (by decide) (by decide) (fun n s1 hn=>?_)
  |refine dvK (by decide) (fun n s1 hn=>?_)
  |refine dvA (by assumption) (fun n s1 hn=>?_)
  |refine k _ _ ?_
  |refine Rds.two ?_ (by decide) (by decide) (by first|exact Nat.le_of_ble_eq_true rfl|exact Qd|(simp only [List.length_append,List.length_cons,List.length_nil];omega))
  |apply Rds.cons2
  |apply Rds.app)
theorem dv_let (hL:DvL L) (hr:Real s) (k:∀n s1,Rds [n] s s1→Q n s1):Rd.wp (letR L) s Q noE:=by
 have h1:=hL.decls
 simp only [letR,Rd.wp_seq]
 refine dvT hr fun h0=>?_
 exact dvA h1 fun b s1 hb=>Xfd hL (h0.cons hb) k
theorem Xlp (hA:Dv A) (k:∀n s1,Rds [n] s s1→Q n s1):Rd.wp (atomsR A) s Q noE:=by
 simp only [atomsR,Rd.wp_seq,Rd.wp_ret]
 refine dvA hA fun n s1 hn=>?_
 refine dvLoop (P:=fun l s1=>Rds l s s1∧1≤l.length) (fun l s1 h0=>?_) ⟨hn,Nat.le_refl _⟩
 obtain ⟨h0,hl⟩:=h0
 simp only [atomsB,Rd.Xi,Rd.Xy,Rd.wp_seq,Rd.wp_ret]
 exact XQ (fun _=>dvA hA fun n s1 hn=>⟨h0.snoc hn,by rw [List.length_append];omega⟩) fun _=>k _ _ (h0.one (by decide) (by decide) hl)
theorem XgR (hL:DvL L) (hA:Dv A):Dv (operandR L A):=fun s=>by
 simp only [operandR,Rd.Xi,Rd.Xy]
 have hat:=Xlp (s:=s) (Q:=fun n s'=>Rds [n] s s') hA fun _ _ h=>h
 refine XQ (fun e=>XQ (fun _=>Xjw hL hA (QG e (by decide) (by decide)) fun _ _ h=>h) fun _=>hat) fun _=>XQ (fun e=>?_) fun _=>hat
 have hr:=QG e (by decide) (by decide)
 exact XQ (fun _=>dv_let hL hr fun _ _ h=>h) fun _=>XQ (fun _=>Xjt hL hr fun _ _ h=>h) fun _=>XQ (fun _=>dv_case hL hr fun _ _ h=>h) fun _=>XQ (fun _=>Xlx hL hr fun _ _ h=>h) fun _=>hat
theorem Xib {o:Nd} (h0:Rds [o] s0 s) (k:∀n s1,Rds [n] s0 s1→Q n s1):Rd.wp (headR o) s Q noE:=by
 simp only [headR,Rd.wp_seq,Rd.wp_ret]
 refine dvLoop (P:=fun l s1=>Rds l s0 s1∧1≤l.length) (fun l s1 h0=>?_) ⟨h0,Nat.le_refl _⟩
 obtain ⟨h0,hl⟩:=h0
 simp only [commasB,Rd.Xi,Rd.Xy,Rd.wp_seq,Rd.wp_ret]
 exact XQ (fun e=>dvT (XP e (by decide) (by decide)) fun h=>⟨h0.snoc h,by rw [List.length_append];omega⟩) fun _=>dvW (by decide) (by decide) fun n s1 h=>k _ _ ((h0.snoc h).two (by decide) (by decide) (by rw [List.length_append,List.length_singleton];omega))
theorem Xjz {o:Nd} (hL:DvL L) (h0:Rds [o] s0 s) (k:∀n s1,Rds [n] s0 s1→Q n s1):Rd.wp (roundC L o) s Q noE:=by
 have h1:=hL.ops
 have h2:=XdU
 simp only [roundC,Rd.Xi,Rd.Xy,Rd.wp_seq,Rd.wp_ret]
 repeat' (first
  |exact trivial
  |assumption
  |refine XQ (fun e=>?_) (fun e=>?_)
  |refine dvT (XP (by assumption) (by decide) (by decide)) (fun hn=>?_)
  |refine dvT (QG (by assumption) (by decide) (by decide)) (fun hn=>?_)
  |refine dvT (QZ (by assumption)) (fun hn=>?_)
  |refine dvT (Zb (by assumption)) (fun hn=>?_)
  |refine dvT (Za (by assumption)) (fun hn=>?_)
  |refine dvT (by assumption) (fun hn=>?_)
  |refine dvW (by decide) (by decide) (fun n s1 hn=>?_)
  |refine dvK (by decide) (fun n s1 hn=>?_)
  |refine dvA (by assumption) (fun n s1 hn=>?_)
  |exact dvO hL.brack h0 k
  |refine k _ _ ?_
  |refine Rds.two ?_ (by decide) (by decide) (by first|exact Nat.le_of_ble_eq_true rfl|exact Qd|(simp only [List.length_append,List.length_cons,List.length_nil];omega))
  |apply Rds.cons2
  |apply Rds.app)
theorem Xjy {o:Nd} (hL:DvL L) (h0:Rds [o] s0 s) (k:∀n s1,Rds [n] s0 s1→Q n s1):Rd.wp (roundB L o) s Q noE:=by
 simp only [roundB,Rd.Xi,Rd.Xy,Rd.wp_seq,Rd.wp_ret]
 have hc:=Xjz (Q:=Q) hL h0 k
 refine XQ (fun e=>XQ (fun e2=>?_) fun _=>hc) fun _=>hc
 exact dvT (Zb e) fun h1=>dvT (XP e2 (by decide) (by decide)) fun h2=>k _ _ ((h0.cons (h1.cons h2)).two (by decide) (by decide) (Nat.le_of_ble_eq_true rfl))
theorem Xlt (hL:DvL L) (hr:Real s) (k:∀n s1,Rds [n] s s1→Q n s1):Rd.wp (roundR L) s Q noE:=by
 simp only [roundR,Rd.Xi,Rd.Xy,Rd.wp_seq]
 exact dvT hr fun h0=>XQ (fun _=>Xib h0 k) fun _=>XQ (fun _=>Xib h0 k) fun _=>Xjy hL h0 k
theorem XjA (hL:DvL L) (hr:Real s) (k:∀n s1,Rds [n] s s1→Q n s1):Rd.wp (squareR L) s Q noE:=by
 simp only [squareR,Rd.Xi,Rd.Xy,Rd.wp_seq,Rd.wp_ret]
 refine dvT hr fun h0=>?_
 repeat' (first
  |exact trivial
  |assumption
  |refine XQ (fun e=>?_) (fun e=>?_)
  |refine dvT (XP (by assumption) (by decide) (by decide)) (fun hn=>?_)
  |refine dvT (QG (by assumption) (by decide) (by decide)) (fun hn=>?_)
  |refine dvT (QZ (by assumption)) (fun hn=>?_)
  |refine dvT (Zb (by assumption)) (fun hn=>?_)
  |refine dvT (Za (by assumption)) (fun hn=>?_)
  |refine dvT (by assumption) (fun hn=>?_)
  |refine dvW (by decide) (by decide) (fun n s1 hn=>?_)
  |refine dvK (by decide) (fun n s1 hn=>?_)
  |refine dvA (by assumption) (fun n s1 hn=>?_)
  |exact dvO hL.list h0 k
  |refine k _ _ ?_
  |refine Rds.two ?_ (by decide) (by decide) (by first|exact Nat.le_of_ble_eq_true rfl|exact Qd|(simp only [List.length_append,List.length_cons,List.length_nil];omega))
  |apply Rds.cons2
  |apply Rds.app)
theorem dv_base (hL:DvL L):Dv (baseR L):=fun s=>by
 have h1:=hL.atom
 simp only [baseR,Rd.Xi,Rd.Xy,Rd.wp_seq,Rd.wp_ret]
 refine XQ (fun e=>?_) fun _=>trivial
 have hr:=QZ e
 repeat' (first
  |exact trivial
  |assumption
  |refine XQ (fun e=>?_) (fun e=>?_)
  |refine dvT (XP (by assumption) (by decide) (by decide)) (fun hn=>?_)
  |refine dvT (QG (by assumption) (by decide) (by decide)) (fun hn=>?_)
  |refine dvT (QZ (by assumption)) (fun hn=>?_)
  |refine dvT (Zb (by assumption)) (fun hn=>?_)
  |refine dvT (Za (by assumption)) (fun hn=>?_)
  |refine dvT (by assumption) (fun hn=>?_)
  |refine dvW (by decide) (by decide) (fun n s1 hn=>?_)
  |refine dvK (by decide) (fun n s1 hn=>?_)
  |refine dvA (by assumption) (fun n s1 hn=>?_)
  |exact Xlt hL hr fun _ _ h=>h
  |exact XjA hL hr fun _ _ h=>h
  |exact Rds.leaf1 (by assumption) (by decide) (by decide)
  |refine Rds.two ?_ (by decide) (by decide) (by first|exact Nat.le_of_ble_eq_true rfl|exact Qd|(simp only [List.length_append,List.length_cons,List.length_nil];omega))
  |apply Rds.cons2
  |apply Rds.app)
theorem Xjx {n:Nd} (hL:DvL L) (hr:Real s) (h0:Rds [n] s0 s) (k:∀n s1,Rds [n] s0 s1→Q n s1):Rd.wp (recordR L n) s Q noE:=by
 have h1:=hL.exp
 simp only [recordR,Rd.wp_seq,Rd.wp_ret]
 refine dvT hr fun hb=>?_
 refine dvLoop (P:=fun l s1=>Rds l s0 s1∧1≤l.length) (fun l s1 h0=>?_) ⟨h0.cons hb,Nat.le_of_ble_eq_true rfl⟩
 obtain ⟨h0,hl⟩:=h0
 have hend:∀{l:List Nd} {s:Sta},Rds l s0 s→1≤l.length→Rd.wp (wantR 15 [125]) s (fun c s'=>Q (nodeK 12 (l++[c])) s') noE:=fun h0 hl=>dvW (by decide) (by decide) fun n s1 h=>k _ _ ((h0.snoc h).two (by decide) (by decide) (by rw [List.length_append,List.length_singleton];omega))
 simp only [recordB,fieldS,Rd.Xi,Rd.Xy,Rd.wp_seq,Rd.wp_ret]
 have hf:Rd.wp (kindR [1,3]) s1 (fun nm s'=>Rd.wp (wantR 10 [61]) s' (fun q s'=>Rd.wp L.exp s' (fun e s'=>if isF s' 15 [44]=true then Rd.wp takeR s' (fun c s'=>Rds (l++[nodeK 13 [nm,q,e]]++[c]) s0 s'∧1≤(l++[nodeK 13 [nm,q,e]]++[c]).length) noE
  else Rd.wp (wantR 15 [125]) s' (fun c s'=>Q (nodeK 12 (l++[nodeK 13 [nm,q,e]]++[c])) s') noE) noE) noE) noE:=by
  refine dvK (by decide) fun nm s2 g1=>dvW (by decide) (by decide) fun q s3 g2=>dvA h1 fun e s4 g3=>?_
  have h2:=h0.snoc ((g1.cons (g2.cons g3)).two (k:=13) (by decide) (by decide) (Nat.le_of_ble_eq_true rfl))
  exact XQ (fun e=>dvT (XP e (by decide) (by decide)) fun h=>⟨h2.snoc h,Nat.le_trans (by decide) Qd⟩) fun _=>hend h2 (by rw [List.length_append,List.length_singleton];omega)
 exact XQ (fun _=>XQ (fun _=>hf) fun _=>hend h0 hl) fun _=>hf
theorem Gr (hL:DvL L):Dv (atomR L):=fun s=>by
 simp only [atomR,Rd.wp_seq]
 refine dvA (dv_base hL) fun n s1 hn=>?_
 refine dvLoop (P:=fun n s1=>Rds [n] s s1) (fun n s1 h0=>?_) hn
 simp only [atomB,Rd.Xi,Rd.Xy,Rd.wp_seq,Rd.wp_ret]
 exact XQ (fun e=>Xjx hL (XP e (by decide) (by decide)) h0 fun _ _ h=>h) fun _=>h0
end
section
variable {A B C D E:Rd Nd} {s s0 s1 s2 s':Sta} {Q:Nd→Sta→Prop} {L:Low}
theorem Xky:∀{l:List Nd},2≤l.length→l.take (l.length - 1)++[l.getLastD nd0]=l∧1≤(l.take (l.length - 1)).length:=fun {l} h=>by
 have hne:l≠[]:=fun e=>by rw [e] at h;exact absurd h (by decide)
 refine ⟨?_,by rw [List.length_take];omega⟩
 have h1:=List.dropLast_concat_getLast hne
 rw [←List.dropLast_eq_take]
 have:l.getLastD nd0=l.getLast hne:=by
  rw [List.getLastD_eq_getLast?,List.getLast?_eq_some_getLast hne];rfl
 rw [this];exact h1
theorem Rds.split:∀{l:List Nd} {s s':Sta},Rds l s s'→∀{a b:List Nd},l=a++b→∃s1,Rds a s s1∧Rds b s1 s':=by
 intro l s s' h
 induction h with
 |nil s=>intro a b e;obtain ⟨rfl,rfl⟩:=List.append_eq_nil_iff.1 e.symm;exact ⟨s,.nil s,.nil s⟩
 |app h1 h2 i1 i2=>
  intro a b e
  rcases List.append_eq_append_iff.1 e with ⟨x,e1,e2⟩|⟨x,e1,e2⟩
  ·obtain ⟨s1,k1,k2⟩:=i2 e2
   subst e1
   exact ⟨s1,.app h1 k1,k2⟩
  ·obtain ⟨s1,k1,k2⟩:=i1 e1
   subst e2
   exact ⟨s1,k1,.app k2 h2⟩
 |tok g1 g2 g3=>
  intro a b e
  match a with
  |[]=>rw [List.nil_append] at e;subst e;exact ⟨_,.nil _,.tok g1 g2 g3⟩
  |x::r=>
   rw [List.cons_append] at e
   injection e with e1 e2
   obtain ⟨rfl,rfl⟩:=List.append_eq_nil_iff.1 e2.symm
   subst e1
   exact ⟨_,.tok g1 g2 g3,.nil _⟩
 |skip g1 g2=>intro a b e;obtain ⟨rfl,rfl⟩:=List.append_eq_nil_iff.1 e.symm;exact ⟨_,.nil _,.skip g1 g2⟩
 |close g1=>intro a b e;obtain ⟨rfl,rfl⟩:=List.append_eq_nil_iff.1 e.symm;exact ⟨_,.nil _,.close g1⟩
 |node g1 g2 g3 ih=>
  intro a b e
  match a with
  |[]=>rw [List.nil_append] at e;subst e;exact ⟨_,.nil _,.node g1 g2 g3⟩
  |x::r=>
   rw [List.cons_append] at e
   injection e with e1 e2
   obtain ⟨rfl,rfl⟩:=List.append_eq_nil_iff.1 e2.symm
   subst e1
   exact ⟨_,.node g1 g2 g3,.nil _⟩
 |block g1 g2 g3 ih=>
  intro a b e
  match a with
  |[]=>rw [List.nil_append] at e;subst e;exact ⟨_,.nil _,.block g1 g2 g3⟩
  |x::r=>
   rw [List.cons_append] at e
   injection e with e1 e2
   obtain ⟨rfl,rfl⟩:=List.append_eq_nil_iff.1 e2.symm
   subst e1
   exact ⟨_,.block g1 g2 g3,.nil _⟩
theorem Xlq {o:Nd} (hA:Dv A) (hB:Dv B) (hC:Dv C):∀s,Rd.wp (bracketedR A B C o) s (fun n s'=>∀s0,Rds [o] s0 s→Rds [n] s0 s') noE:=fun s=>by
 simp only [bracketedR,Rd.Xy,Rd.wp_seq,Rd.wp_ret]
 refine Xlu hA fun l b s1 h1 h2 hl=>?_
 dsimp only
 refine XQ (fun e=>?_) fun _=>?_
 ·obtain ⟨h3,h4⟩:=h2 e
  obtain ⟨t1,t2⟩:=Xky h3
  obtain ⟨s2,k1,k2⟩:=hl.split t1.symm
  exact dvT (XP h4 (by decide) (by decide)) fun g1 s0 ho=>(ho.cons ((k1.one (by decide) (by decide) t2).cons (k2.cons g1))).two (by decide) (by decide) (Nat.le_of_ble_eq_true rfl)
 ·refine Xff hB (hl.one (by decide) (by decide) h1) fun n s1 hn=>?_
  refine dvLoop (P:=fun q s1=>(q.1=4∨q.1=5)∧2≤q.2.length∧∀s0,Rds [o] s0 s→Rds q.2 s0 s1) (fun q s1 h0=>?_) ⟨.inl rfl,Nat.le_refl _,fun s0 ho=>ho.cons hn⟩
  obtain ⟨hq,hl,h0⟩:=h0
  simp only [tupleB,Rd.Xi,Rd.Xy,Rd.wp_seq,Rd.wp_ret]
  refine XQ (fun e=>dvT (XP e (by decide) (by decide)) fun g1=>dvA hC fun n s2 g2=>⟨.inr trivial,Qd,fun s0 ho=>((h0 s0 ho).snoc g1).snoc g2⟩) fun _=>dvW (by decide) (by decide) fun c s2 hc s0 ho=>?_
  exact ((h0 s0 ho).snoc hc).two (by omega) (by omega) (by rw [List.length_append];omega)
theorem Xfe {l:List Nd} {Q:List Nd→Sta→Prop} (hA:Dv A) (h0:Rds l s0 s) (k:∀l' s1,l.length+2≤l'.length→Rds l' s0 s1→Q l' s1):Rd.wp (qualsR A l) s Q noE:=by
 simp only [qualsR,Rd.wp_seq]
 refine dvW (by decide) (by decide) fun b s1 hb=>dvA hA fun t s2 ht=>?_
 refine dvLoop (P:=fun l' s1=>Rds l' s0 s1∧l.length+2≤l'.length) (fun l' s1 h0=>?_) ⟨(h0.snoc hb).snoc ht,by simp only [List.length_append,List.length_singleton];omega⟩
 obtain ⟨h0,hl⟩:=h0
 simp only [qualsB,Rd.Xi,Rd.Xy,Rd.wp_seq,Rd.wp_ret]
 exact XQ (fun e=>dvT (XP e (by decide) (by decide)) fun g1=>dvA hA fun n s2 g2=>⟨(h0.snoc g1).snoc g2,by simp only [List.length_append,List.length_singleton];omega⟩) fun _=>k _ _ hl h0
theorem dv_list {o:Nd} (hA:Dv A) (hB:Dv B):∀s,Rd.wp (listR A B o) s (fun n s'=>∀s0,Rds [o] s0 s→Rds [n] s0 s') noE:=fun s=>by
 simp only [listR,Rd.Xi,Rd.Xy,Rd.wp_seq,Rd.wp_ret]
 refine dvA hA fun e s1 he=>XQ (fun _=>?_) fun _=>?_
 ·have:Rd.wp (qualsR B [o,e]) s1 (fun l s2=>Rd.wp (wantR 15 [93]) s2 (fun c s'=>∀s0,Rds [o] s0 s→Rds [nodeK 8 (l++[c])] s0 s') noE) noE:=by
   refine Rd.Xgz (fun l s2 hr=>?_) (fun _ _ _=>trivial)
   refine dvW (by decide) (by decide) fun c s3 hc s0 ho=>?_
   have h1:Rd.wp (qualsR B [o,e]) s1 (fun l s2=>Rds l s0 s2∧2≤l.length) noE:=Xfe hB (ho.cons he) fun l' s1 hl h=>⟨h,by simp only [List.length_cons,List.length_nil] at hl;omega⟩
   unfold Rd.wp at h1
   rw [hr] at h1
   exact (h1.1.snoc hc).two (by decide) (by decide) (by rw [List.length_append];omega)
  exact this
 ·refine dvLoop (P:=fun l s1=>2≤l.length∧∀s0,Rds [o] s0 s→Rds l s0 s1) (fun l s1 h0=>?_) ⟨Nat.le_refl _,fun s0 ho=>ho.cons he⟩
  obtain ⟨hl,h0⟩:=h0
  have hend:∀{k:Int} {l:List Nd} {s1:Sta},k≠1→k≠30→2≤l.length→(∀s0,Rds [o] s0 s→Rds l s0 s1)→Rd.wp (wantR 15 [93]) s1 (fun c s'=>∀s0,Rds [o] s0 s→Rds [nodeK k (l++[c])] s0 s') noE:=fun hk h30 hl h0=>
   dvW (by decide) (by decide) fun c s3 hc s0 ho=>((h0 s0 ho).snoc hc).two hk h30 (by rw [List.length_append];omega)
  simp only [listB,listC,Rd.Xi,Rd.Xy,Rd.wp_seq,Rd.wp_ret]
  have hc:if isF s1 15 [44]=true then Rd.wp takeR s1 (fun c s'=>Rd.wp A s' (fun e s'=>2≤(l++[c]++[e]).length∧∀s0,Rds [o] s0 s→Rds (l++[c]++[e]) s0 s') noE) noE
   else Rd.wp (wantR 15 [93]) s1 (fun c s'=>∀s0,Rds [o] s0 s→Rds [nodeK 6 (l++[c])] s0 s') noE:=
   XQ (fun e=>dvT (XP e (by decide) (by decide)) fun g1=>dvA hA fun n s2 g2=>⟨Qd,fun s0 ho=>((h0 s0 ho).snoc g1).snoc g2⟩) fun _=>hend (by decide) (by decide) hl h0
  refine XQ (fun _=>XQ (fun e=>dvT (XP e (by decide) (by decide)) fun g1=>XQ (fun _=>?_) fun _=>dvA hA fun n s2 g2=>?_) fun _=>hc) fun _=>hc
  ·exact hend (by decide) (by decide) (by rw [List.length_append];omega) fun s0 ho=>(h0 s0 ho).snoc g1
  ·exact hend (by decide) (by decide) Qd fun s0 ho=>((h0 s0 ho).snoc g1).snoc g2
theorem Xh9 {n:Nd} (hA:Dv A) (h0:Rds [n] s0 s) (k:∀n s1,Rds [n] s0 s1→Q n s1):Rd.wp (bindR A n) s Q noE:=by
 simp only [bindR,Rd.Xi,Rd.Xy,Rd.wp_seq,Rd.wp_ret,Rd.Zf]
 exact XQ (fun e=>XQ (fun _=>dvT (XP e (by decide) (by decide)) fun g1=>dvA hA fun m s2 g2=>k _ _ ((h0.cons (g1.cons g2)).two (by decide) (by decide) (Nat.le_of_ble_eq_true rfl))) fun _=>trivial) fun _=>k _ _ h0
theorem dv_stmt (hL:DvL L) (hA:Dv A):Dv (stmtR L A):=fun s=>by
 simp only [stmtR,Rd.Xi,Rd.Xy,Rd.wp_seq,Rd.wp_ret]
 exact XQ (fun e=>dvT (XP e (by decide) (by decide)) fun g1=>dvA hL.decls fun b s2 g2=>XQ (fun _=>Xfd hL (g1.cons g2) fun n s3 g3=>Xh9 hA g3 fun _ _ h=>h) fun _=>(g1.cons g2).two (by decide) (by decide) (Nat.le_of_ble_eq_true rfl))
  fun _=>dvA hA fun n s3 g3=>Xh9 hA g3 fun _ _ h=>h
theorem Xid {m:List UInt8} {l:List Nd} (hL:DvL L) (hA:Dv A) (hB:Dv B) (h0:Rds l s0 s) (hl:l=[]∨2≤sls l) (k:∀n s1,Rds [n] s0 s1→Q n s1):Rd.wp (rhsB L A B m l) s Q noE:=by
 simp only [rhsB,Rd.wp_seq,Rd.Xi,Rd.Xy,Rd.wp_ret]
 refine dvLoop (P:=fun l s1=>Rds l s0 s1∧(l=[]∨2≤sls l)) (fun l s1 h0=>?_) ⟨h0,hl⟩
 obtain ⟨h0,hl⟩:=h0
 have hs:Rd.wp (qualsR B []) s1 (fun g s'=>Rd.wp (wantR 10 m) s' (fun q s'=>Rd.wp A s' (fun e s'=>Rds (l++[nodeK 30 (g++[q]++[e])]) s0 s'∧(l++[nodeK 30 (g++[q]++[e])]=[]∨2≤sls (l++[nodeK 30 (g++[q]++[e])]))) noE) noE) noE:=by
  refine Xfe hB (.nil s1) fun g s2 hg h=>dvW (by decide) (by decide) fun q s3 g1=>dvA hA fun e s4 g2=>⟨h0.snoc (Rds.gd ((h.snoc g1).snoc g2) (by simp only [List.length_append,List.length_singleton,List.length_nil] at *;omega)),.inr ?_⟩
  rw [UD]
  have:sls [nodeK 30 (g++[q]++[e])]=2:=rfl
  omega
 have he:∀{l:List Nd} {s1:Sta},Rds l s0 s1→2≤sls l→if isF s1 9 wWhere=true then Rd.wp takeR s1 (fun w s'=>Rd.wp L.decls s' (fun b s'=>Q (nodeK 29 (l++[nodeK 31 [w,b]])) s') noE) noE else Q (nodeK 29 l) s1:=fun {l s1} h0 hl=>
  XQ (fun e=>dvT (XP e (by decide) (by decide)) fun g1=>dvA hL.decls fun b s2 g2=>k _ _ (.node (h0.snoc ((g1.cons g2).two (by decide) (by decide) (Nat.le_of_ble_eq_true rfl))) (by decide) (by rw [UD];have:slk 29=1:=rfl;omega)))
   fun _=>k _ _ (.node h0 (by decide) (by have:slk 29=1:=rfl;omega))
 simp only [guardB,guardS,Rd.Xi,Rd.Xy,Rd.wp_seq,Rd.wp_ret]
 refine XQ (fun _=>hs) fun hz=>?_
 have hl:2≤sls l:=by
  rcases hl with rfl|hl
  ·exact absurd rfl hz
  ·exact hl
 exact XQ (fun _=>XQ (fun _=>hs) fun _=>he h0 hl) fun _=>he h0 hl
theorem Xls {m:List UInt8} (hL:DvL L) (hA:Dv A) (hB:Dv B):Dv (rhsR L A B m):=fun s=>by
 simp only [rhsR,Rd.Xi,Rd.Xy,Rd.wp_seq]
 refine XQ (fun e=>?_) fun _=>XQ (fun _=>Xid hL hA hB (.nil s) (.inl rfl) fun _ _ h=>h) fun _=>trivial
 by_cases h18:Real s
 ·exact dvT h18 fun g1=>dvA hA fun e s2 g2=>Xid hL hA hB (g1.cons g2) (.inr (Nat.le_trans (Nat.le_of_ble_eq_true rfl) Xbh)) fun _ _ h=>h
 ·exact absurd (XP e (by decide) (by decide)) h18
theorem dv_alt (hL:DvL L) (hA:Dv A) (hB:Dv B) (hC:Dv C):Dv (altR L A B C):=fun s=>by
 simp only [altR,Rd.Xy,Rd.wp_seq,Rd.wp_ret,Rd.Zf]
 exact dvA hA fun n s1 g1=>XQ (fun _=>dvA (Xls hL hB hC) fun r s2 g2=>(g1.cons g2).two (by decide) (by decide) (Nat.le_of_ble_eq_true rfl)) fun _=>trivial
theorem XbM {l:List Nd} (h0:Rds l s0 s) (hl:1≤l.length) (k:∀n s1,Rds [n] s0 s1→Q n s1):Rd.wp (fixityC l) s Q noE:=by
 have ho:=Hw (p:=plainN) XdU
 simp only [fixityC,Rd.wp_seq]
 refine dvA ho fun o s1 g1=>?_
 refine dvLoop (P:=fun l s1=>Rds l s0 s1∧2≤l.length) (fun l s1 h0=>?_) ⟨h0.snoc g1,by rw [List.length_append,List.length_singleton];omega⟩
 obtain ⟨h0,hl⟩:=h0
 simp only [fixityB,Rd.Xi,Rd.Xy,Rd.wp_seq,Rd.wp_ret]
 exact XQ (fun e=>dvT (XP e (by decide) (by decide)) fun g1=>dvA ho fun o s2 g2=>⟨(h0.snoc g1).snoc g2,Qd⟩) fun _=>k _ _ (h0.two (by decide) (by decide) hl)
theorem Xjv (hr:Real s) (k:∀n s1,Rds [n] s s1→Q n s1):Rd.wp fixityR s Q noE:=by
 simp only [fixityR,Rd.Xi,Rd.Xy,Rd.wp_seq]
 refine dvT hr fun g1=>XQ (fun e=>?_) fun _=>XbM g1 (Nat.le_of_ble_eq_true rfl) k
 simp only [formedR,Rd.Xi,Rd.Xy,Rd.wp_seq,Rd.wp_ret,Rd.Xaw]
 exact dvT (QG e (by decide) (by decide)) fun g2=>XQ (fun _=>XbM (g1.cons g2) (Nat.le_of_ble_eq_true rfl) k) fun _=>trivial
theorem Xlw {n:Nd} (hA:Dv A) (hB:Dv B) (h0:Rds [n] s0 s) (k:∀n s1,Rds [n] s0 s1→Q n s1):Rd.wp (sigR A B n) s Q noE:=by
 have ho:=Hw (p:=varN) hA
 simp only [sigR,Rd.Xy,Rd.wp_seq,Rd.Zf]
 refine XQ (fun _=>?_) fun _=>trivial
 refine dvLoop (P:=fun l s1=>Rds l s0 s1) (fun l s1 h0=>?_) h0
 simp only [sigB,Rd.Xi,Rd.Xy,Rd.wp_seq,Rd.wp_ret]
 exact XQ (fun e=>dvT (XP e (by decide) (by decide)) fun g1=>dvA ho fun o s2 g2=>(h0.snoc g1).snoc g2) fun _=>dvW (by decide) (by decide) fun c s2 g1=>dvA hB fun t s3 g2=>k _ _ (((h0.snoc g1).snoc g2).two (by decide) (by decide) Qd)
theorem dv_decl (hL:DvL L) (hA:Dv A) (hB:Dv B) (hC:Dv C) (hD:Dv D) (hE:Dv E):Dv (declR L A B C D E):=fun s=>by
 simp only [declR,Rd.Xi,Rd.Xy,Rd.wp_seq,Rd.wp_ret,Rd.Zf]
 exact XQ (fun e=>Xjv (Za e) fun _ _ h=>h) fun _=>dvA hB fun n s1 g1=>XQ (fun _=>Xlw hA hE g1 fun _ _ h=>h) fun _=>XQ (fun _=>Xlw hA hE g1 fun _ _ h=>h) fun _=>
  XQ (fun _=>dvA (Xls hL hC hD) fun r s2 g2=>(g1.cons g2).two (by decide) (by decide) (Nat.le_of_ble_eq_true rfl)) fun _=>trivial
theorem Xlv {Q:Unit→Sta→Prop} (k:∀s1,Rds [] s s1→Q () s1):Rd.wp semisR s Q noE:=by
 refine dvLoop (P:=fun _ s1=>Rds [] s s1) (fun _ s1 h0=>?_) (.nil s)
 simp only [semisB,Rd.Xi,Rd.Xy,Rd.wp_seq,Rd.wp_ret]
 exact XQ (fun e=>dvS (Xaf e) fun h=>h0.pass h) fun _=>k _ h0
theorem Xfc {f m:Bool} {Q:Bool→Sta→Prop} (k:∀b s1,Rds [] s s1→Q b s1):Rd.wp (endedR f m) s Q noE:=by
 simp only [endedR,Rd.Xi,Rd.Xy,Rd.wp_seq,Rd.wp_ret]
 have hi:∀{f:Bool},(if f then isF s 15 [125] else (nextM s).1.kind==20)=true→idleT (nextM s).1=true:=fun {f} e=>by
  unfold idleT
  cases f with
  |true=>
   rw [if_pos rfl] at e
   unfold isF at e
   simp only [Bool.and_eq_true,beq_iff_eq] at e
   simp [e.1,e.2]
  |false=>
   rw [if_neg (by decide),beq_iff_eq] at e
   simp [e]
 refine XQ (fun e=>dvS (hi e) fun h=>k _ _ h) fun _=>XQ (fun _=>XQ (fun _=>trivial) fun _=>?_) fun _=>k _ _ (.nil s)
 unfold Rd.wp closeR
 dsimp only
 by_cases e:(closeF s).2=true
 ·rw [if_pos e];exact k _ _ (.close e)
 ·rw [if_neg e];trivial
theorem Gs {p:Tk→Bool} (hA:Dv A):Dv (blockR p A):=fun s=>by
 simp only [blockR,Rd.Xi,Rd.Xy,Rd.wp_seq,Rd.wp_ret]
 have hb:∀{f:Bool} {s1:Sta},(nextM s).2.2=0→idleT (nextM s).1=true→(nextM s).2.1=s1→Rd.wp (Rd.loop (blockB p A f) []) s1 (fun l s'=>Rds [blockN f l] s s') noE:=fun {f s1} e1 e2 e3=>by
  subst e3
  refine dvLoop (P:=fun l s1=>Rds l (nextM s).2.1 s1) (fun l s1 h0=>?_) (.nil _)
  simp only [blockB,Rd.Xi,Rd.Xy,Rd.wp_seq,Rd.wp_ret]
  refine Xlv fun s2 g2=>Xfc fun b s3 g3=>XQ (fun _=>.block e1 e2 ((h0.pass g2).pass g3)) fun _=>dvA hA fun n s4 g4=>Xfc fun b s5 g5=>XQ (fun _=>.block e1 e2 ((((h0.pass g2).pass g3).snoc g4).pass g5)) fun _=>(((h0.pass g2).pass g3).snoc g4).pass g5
 refine XQ (fun e=>?_) fun _=>?_
 ·have hi:idleT (nextM s).1=true:=by rw [beq_iff_eq] at e;simp [idleT,e]
  exact dvS hi fun _=>hb (QF (Gx hi).1) hi rfl
 ·unfold wantR
  rw [Rd.Xi,Rd.Xy]
  refine XQ (fun e=>?_) fun _=>trivial
  have hi:idleT (nextM s).1=true:=by
   unfold isF at e
   simp only [Bool.and_eq_true,beq_iff_eq] at e
   simp [idleT,e.1,e.2]
  exact dvT (XP e (by decide) (by decide)) fun _=>hb (QF (Gx hi).1) hi rfl
theorem UN (d:Nat):Dv (fullL d):=Dv.of fun s n s' h=>by
 have hd:Derives (fullP (atomP (typeP (d - 1)))):=dt_full (Xh6 (Xh7 _))
 refine hd s n s' ?_
 unfold fullL ofRs at h
 dsimp only at h
 split at h
 ·split at h<;>cases h
 ·cases h;assumption
theorem Xia {o:Nd} {e:Er}:∀s,Rd.wp (Rd.fail e:Rd Nd) s (fun n s'=>∀s0,Rds [o] s0 s→Rds [n] s0 s') noE:=fun s=>trivial
theorem Hy (hL:DvL L):Dv (opdL L):=XgR hL (Gr hL)
theorem Uq (hA:Dv A) (hL:DvL L):Dv (expL A L):=dv_exp (Hy hL) hA
theorem UO (hA:Dv A) (hL:DvL L):Dv (stmtL A L):=dv_stmt hL (Uq hA hL)
theorem Xh8 (hA:Dv A) (hL:DvL L):Dv (altL A L):=dv_alt hL (XbO (Hy hL)) (Uq hA hL) (UO hA hL)
theorem XbL (hA:Dv A) (hL:DvL L):Dv (declL A L):=dv_decl hL (Gr hL) (XbO (Hy hL)) (Uq hA hL) (UO hA hL) hA
theorem dv_up (hA:Dv A) (hL:DvL L):DvL (upL A L) where
 atom:=Gr hL
 exp:=Uq hA hL
 ops:=XbO (Hy hL)
 decls:=Gs (XbL hA hL)
 stmts:=Gs (UO hA hL)
 alts:=Gs (Xh8 hA hL)
 brack:=fun o=>Xlq (Hy hL) hA (Uq hA hL)
 list:=fun o=>dv_list (Uq hA hL) (UO hA hL)
theorem XbN:∀d,DvL (lowR d)
 |0=>⟨fun _=>trivial,fun _=>trivial,fun _=>trivial,fun _=>trivial,fun _=>trivial,fun _=>trivial,fun o=>Xia,fun o=>Xia⟩
 |d+1=>dv_up (UN _) (XbN d)
end
theorem Dv.sz {A:Rd Nd} {s s':Sta} {n:Nd} (h:Dv A) (hr:A.run s=.inr (n,s')) (hm:mu s≤100000000):n.size≤1000000000:=by have:=h.size hr;omega
theorem XmP {n:Nd} {s s':Sta} (h:operR.run s=.inr (n,s')):∃x,n.kids[(Int.tdiv (n.kids.length:Int) 2).toNat]? =some x∧n.kids[n.kids.length / 2]? =some x:=by
 unfold operR at h
 replace h:(if symT (nextM s).1=true then Rd.seq takeR fun t=>.ret (nodeK 18 [t]) else Rd.seq (wantR 15 [96]) fun o=>.seq (kindR [1,2,3,4]) fun n=>.seq (wantR 15 [96]) fun c=>.ret (nodeK 18 [o,n,c]):Rd Nd).run s=.inr (n,s'):=h
 split at h
 ·obtain ⟨t,s1,_,h⟩:=XW h
  cases h
  exact ⟨t,(by show [t][(Int.tdiv (1:Int) 2).toNat]? =some t;rw [show (Int.tdiv (1:Int) 2).toNat=0 by decide];rfl),by simp [nodeK,Nd.kids]⟩
 ·obtain ⟨o,s1,_,h⟩:=XW h
  obtain ⟨x,s2,_,h⟩:=XW h
  obtain ⟨c,s3,_,h⟩:=XW h
  cases h
  exact ⟨x,(by show [o,x,c][(Int.tdiv (3:Int) 2).toNat]? =some x;rw [show (Int.tdiv (3:Int) 2).toNat=1 by decide];rfl),by simp [nodeK,Nd.kids]⟩
section
variable {st0 st:St} {b d:Nat} {s:Sta} {rows:List (Own×List Nd)} {K:Res→St→Prop} {L:Low}
attribute [local irreducible] Go.Aw.appendTo
theorem digit_n {n:Nd} (h:K (.ret (.bool (digitN n))) st):PC 198 [enc n] st K:=by
 refine Xa Xb [] Tryz.func198 rfl (by decide) ?_
 repeat' ((conv=>whnf);first|(with_reducible first|refine Yd0 ?_|(refine Yd1 ?_ ?_<;>intro e h)|(refine Yd2 ?_ ?_<;>intro _))|refine worth_c ?_)
 all_goals conv=>whnf
 all_goals (refine Xq h ?_;clear h;simp_all [digitN])
theorem Xfu:RdC enc 196 (fun b=>[pv b d,.func 199 [] [],.func 200 [] []]) (formedR operR plainN):=
 Vs Xbb fun hr _ k=>by obtain ⟨x,h1,h2⟩:=XmP hr;exact XmU h1 h2 k
theorem fdig_rd:RdC enc 196 (fun b=>[pv b d,.func 197 [] [],.func 198 [] []]) (formedR takeR digitN):=
 Vs Xg4 fun _ _ k=>digit_n k
theorem fvar_rd {atom:Rd Nd} (ha:RdC enc 202 (fun b=>[pv b d]) atom) (hD:Dv atom):RdC enc 196 (fun b=>[pv b d,.func 202 [] [],.func 201 [] []]) (formedR atom varN):=
 Vs ha fun hr hm k=>Xiw (Dv.sz hD hr hm) k
set_option maxHeartbeats 4000000 in
theorem XjO:RdC enc 136 (fun b=>[pv b d]) fixityR:=by
 refine ⟨fun {st0 b s st rows K} hc h=>?_⟩
 simp only [fixityR,fixityC,Rd.Xi,Rd.Xy,Rd.wp_seq,Rd.wp_ret] at h
 have hmu:=hc.mu
 refine Xa Xb [] Tryz.func136 rfl (by decide) ?_
 repeat' ((conv=>whnf);first|(with_reducible first|refine Yd0 ?_|(refine Yd1 ?_ ?_<;>intro e h)|(refine Yd2 ?_ ?_<;>intro _))|refine Cx.app1 (l:=[_]) (hc.push [_]) (Nat.le_of_ble_eq_true rfl) (fun own1 st1 hc=>?_)|refine Qb hc (by assumption) (fun st1 hc=>?_)|refine Qr hc (by assumption) (fun st1 hc=>?_)|refine Qw hc h (fun st1 hc e h=>?_) (fun st1 hc e h=>?_)|refine Qf hc (fun st1 hc=>?_)|refine take_at hc h (by assumption) (by decide) (fun s1 st1 hz hm hc h=>?_)|refine XD hc h (by first|exact Xw (by assumption)|exact XJ (by assumption)|omega) (fun s1 st1 hz hm hc h=>?_)|refine XC.go hc h (fun n s1 st1 hr hm hc h=>?_) (fun e s1 st1 hc h=>?_)|exact Yr0|refine XF ?_|refine XG ?_|refine XE ?_|refine XH ?_|refine XI ?_|(refine Yr2 ?_;intro own1 st1 hc)|refine Xf (fun e1=>?_)|exact Yr1|refine RdC.go fdig_rd hc h (fun n s1 st1 hr hm hc h=>?_) (fun e s1 st1 hc h=>?_)|refine RdC.go Xfu hc h (fun n s1 st1 hr hm hc h=>?_) (fun e s1 st1 hc h=>?_))
 all_goals refine Qs (fun l own=>[(3,.slice 6 (l.map encN) own)]) (fun _ _=>[]) [1,2] [0,1] (fun l own=>(own,l)::rows) (fun l=>l.length) _ hc h (by simp only [List.length_append,List.length_cons,List.length_nil];omega) Yl ?_
 all_goals intro l s1 st1 own1 hc h hl hm1
 all_goals simp only [fixityB,Rd.Xi,Rd.Xy,Rd.wp_seq,Rd.wp_ret,Rd.XT] at h
 all_goals (repeat' ((conv=>whnf);first|(with_reducible first|refine Yd0 ?_|(refine Yd1 ?_ ?_<;>intro e h)|(refine Yd2 ?_ ?_<;>intro _))|refine Qb hc (by assumption) (fun st1 hc=>?_)|refine Qr hc (by assumption) (fun st1 hc=>?_)|refine Qw hc h (fun st1 hc e h=>?_) (fun st1 hc e h=>?_)|refine Qf hc (fun st1 hc=>?_)|refine take_at hc h (by assumption) (by decide) (fun s1 st1 hz hm hc h=>?_)|refine XD hc h (by first|exact Xw (by assumption)|exact XJ (by assumption)|omega) (fun s1 st1 hz hm hc h=>?_)|refine XC.go hc h (fun n s1 st1 hr hm hc h=>?_) (fun e s1 st1 hc h=>?_)|exact Yr0|refine XF ?_|refine XG ?_|refine XE ?_|refine XH ?_|refine XI ?_|(refine Yr2 ?_;intro own1 st1 hc)|refine Xf (fun e1=>?_)|exact Yr1|refine RdC.go Xfu hc h (fun n s1 st1 hr hm hc h=>?_) (fun e s1 st1 hc h=>?_)))
set_option maxHeartbeats 4000000 in
theorem sig_rd {atom full:Rd Nd} {n:Nd} (hn:n.size≤1000000000) (ha:RdC enc 202 (fun b=>[pv b d]) atom) (hD:Dv atom) (hf:RdC enc 203 (fun b=>[pv b d]) full):RdC enc 138 (fun b=>[pv b d,enc n]) (sigR atom full n):=by
 refine ⟨fun {st0 b s st rows K} hc h=>?_⟩
 simp only [sigR,Rd.Xy,Rd.wp_seq,Rd.wp_ret,Rd.Zf] at h
 have hmu:=hc.mu
 refine Xa Xb [] Tryz.func138 rfl (by decide) ?_
 repeat' ((conv=>whnf);first|(with_reducible first|exact Wa|exact Wb|exact Wc|refine Wd (by kernel_rfl) ?_|refine We ?_ ?_ ?_|refine W8 (by decide +kernel) ?_ ?_ ?_|refine W0 (by decide +kernel) ?_ ?_ ?_|refine W9 ?_ ?_ ?_|refine Yd0 ?_|(refine Yd1 ?_ ?_<;>intro e h)|(refine Yd2 ?_ ?_<;>intro _))|refine Qb hc (by assumption) (fun st1 hc=>?_)|refine Qr hc (by assumption) (fun st1 hc=>?_)|refine Qw hc h (fun st1 hc e h=>?_) (fun st1 hc e h=>?_)|refine take_at hc h (by assumption) (by decide) (fun s1 st1 hz hm hc h=>?_)|refine XD hc h (by first|exact Xw (by assumption)|exact XJ (by assumption)|omega) (fun s1 st1 hz hm hc h=>?_)|refine XC.go hc h (fun n s1 st1 hr hm hc h=>?_) (fun e s1 st1 hc h=>?_)|refine XM.go hc h (fun n s1 st1 hr hm hc h=>?_) (fun e s1 st1 hc h=>?_)|exact Yr0|refine XF ?_|refine XG ?_|refine XE ?_|refine XH ?_|refine XI ?_|(refine Yr2 ?_;intro own1 st1 hc)|refine Xf (fun e1=>?_)|exact Yr1|refine Xiw hn ?_|refine Xel ?_|refine Xek ?_|refine Xk [(0,true),(1,true),(2,false),(3,false)] [] (by decide +kernel) ?_|with_reducible refine WF ?_)
 all_goals refine Qs (fun l own=>[(5,.slice 6 (l.map encN) own)]) (fun _ _=>[]) [2,3,4] [0,1,2] (fun l own=>(own,l)::rows) (fun l=>l.length) .full (hc.push _) h (by show 1+_≤_;omega) Yl ?_
 all_goals intro l s1 st1 own1 hc h hl hm1
 all_goals simp only [sigB,Rd.Xi,Rd.Xy,Rd.wp_seq,Rd.wp_ret,Rd.XT] at h
 all_goals (repeat' ((conv=>whnf);first|(with_reducible first|exact Wa|exact Wb|exact Wc|refine Wd (by kernel_rfl) ?_|refine We ?_ ?_ ?_|refine W8 (by decide +kernel) ?_ ?_ ?_|refine W0 (by decide +kernel) ?_ ?_ ?_|refine W9 ?_ ?_ ?_|refine Yd0 ?_|(refine Yd1 ?_ ?_<;>intro e h)|(refine Yd2 ?_ ?_<;>intro _))|refine Qb hc (by assumption) (fun st1 hc=>?_)|refine Qr hc (by assumption) (fun st1 hc=>?_)|refine Qw hc h (fun st1 hc e h=>?_) (fun st1 hc e h=>?_)|refine take_at hc h (by assumption) (by decide) (fun s1 st1 hz hm hc h=>?_)|refine XD hc h (by first|exact Xw (by assumption)|exact XJ (by assumption)|omega) (fun s1 st1 hz hm hc h=>?_)|refine XC.go hc h (fun n s1 st1 hr hm hc h=>?_) (fun e s1 st1 hc h=>?_)|refine XM.go hc h (fun n s1 st1 hr hm hc h=>?_) (fun e s1 st1 hc h=>?_)|exact Yr0|refine XF ?_|refine XG ?_|refine XE ?_|refine XH ?_|refine XI ?_|(refine Yr2 ?_;intro own1 st1 hc)|refine Xf (fun e1=>?_)|exact Yr1|refine RdC.go (fvar_rd ha hD) hc h (fun n s1 st1 hr hm hc h=>?_) (fun e s1 st1 hc h=>?_)|refine RdC.go hf hc h (fun n s1 st1 hr hm hc h=>?_) (fun e s1 st1 hc h=>?_)|with_reducible refine WF ?_))
set_option maxHeartbeats 4000000 in
theorem decl_rd {atom ops exp stmt full:Rd Nd} (hL:LowC d L) (ha:RdC enc 202 (fun b=>[pv b d]) atom) (hD:Dv atom) (ho:RdC enc 130 (fun b=>[pv b d]) ops) (hE:Dv ops) (he:RdC enc 80 (fun b=>[pv b d]) exp)
 (hs:RdC enc 60 (fun b=>[pv b d]) stmt) (hf:RdC enc 203 (fun b=>[pv b d]) full):RdC enc 72 (fun b=>[pv b d]) (declR L atom ops exp stmt full):=by
 refine ⟨fun {st0 b s st rows K} hc h=>?_⟩
 simp only [declR,Rd.Xi,Rd.Xy,Rd.wp_seq,Rd.wp_ret,Rd.Zf] at h
 have hmu:=hc.mu
 refine Xa Xb [] Tryz.func72 rfl (by decide) ?_
 repeat' ((conv=>whnf);first|(with_reducible first|exact Wa|exact Wb|exact Wc|refine Wd (by kernel_rfl) ?_|refine We ?_ ?_ ?_|refine W8 (by decide +kernel) ?_ ?_ ?_|refine W0 (by decide +kernel) ?_ ?_ ?_|refine W9 ?_ ?_ ?_|refine Yd0 ?_|(refine Yd1 ?_ ?_<;>intro e h)|(refine Yd2 ?_ ?_<;>intro _))|refine Qz hc (by assumption) (fun st1 hc=>?_)|refine Zz hc (by assumption) (fun st1 hc=>?_)|refine ZH hc h (fun st1 hc e h=>?_) (fun st1 hc e h=>?_)|refine Qb hc (by assumption) (fun st1 hc=>?_)|refine Qr hc (by assumption) (fun st1 hc=>?_)|refine Qw hc h (fun st1 hc e h=>?_) (fun st1 hc e h=>?_)|refine Qf hc (fun st1 hc=>?_)|exact Yr0|refine XF ?_|refine XG ?_|refine XE ?_|refine XH ?_|refine XI ?_|refine Xf (fun e1=>?_)|exact Yr1|refine Xiq ?_|refine RdC.go XjO hc h (fun n s1 st1 hr hm hc h=>?_) (fun e s1 st1 hc h=>?_)|refine RdC.go ho hc h (fun n s1 st1 hr hm hc h=>?_) (fun e s1 st1 hc h=>?_)|refine RdC.go (sig_rd (Dv.sz hE hr hmu) ha hD hf) hc h (fun n s1 st1 hr hm hc h=>?_) (fun e s1 st1 hc h=>?_)|refine lhs_c ?_|refine Xel ?_|refine Xek ?_|refine RdC.go (Xm2 hL he hs) hc h (fun n s1 st1 hr hm hc h=>?_) (fun e s1 st1 hc h=>?_)|refine Xk [(0,true),(1,true),(2,false),(3,true),(4,false),(5,false)] [1] (by decide +kernel) ?_|with_reducible refine WF ?_)
end
theorem Dv.falls {A:Rd Nd} (h:Dv A):Rd.Falls A:=fun s n s' e=>by
 have h1:=h.size e
 have h2:=size_pos n
 omega
section
variable {st0 st:St} {b d:Nat} {s:Sta} {rows:List (Own×List Nd)} {K:Res→St→Prop} {L:Low}
attribute [local irreducible] Go.Aw.appendTo
theorem Xh3 (hb:s.opn.length≤500000000) (h:K (.ret (.tup [encS (closeF s).1,.bool (closeF s).2])) st):PC 237 [encS s] st K:=by
 refine Xa Xb [] Tryz.func237 rfl (by decide) ?_
 have h0:¬topF s=0→s.opn≠[]:=fun e e2=>e (by unfold topF;rw [e2];rfl)
 unfold closeF at h
 by_cases hm:mayF s=true
 ·by_cases hw:s.wait=1
  ·rw [if_neg (by omega)] at h
   repeat' ((conv=>whnf);first|(with_reducible first|refine Yd0 ?_|(refine Yd1 ?_ ?_<;>intro e h)|(refine Yd2 ?_ ?_<;>intro _)|refine Wq (by omega) (by omega) ?_)|refine XfK ?_|refine XaR ?_)
   all_goals first|exact finw rfl h|(rw [hm] at *;simp at *)
  ·by_cases ht:topF s=0
   ·rw [if_neg (by omega)] at h
    repeat' ((conv=>whnf);first|(with_reducible first|refine Yd0 ?_|(refine Yd1 ?_ ?_<;>intro e h)|(refine Yd2 ?_ ?_<;>intro _)|refine Wq (by omega) (by omega) ?_)|refine XfK ?_|refine XaR ?_)
    all_goals first|exact finw rfl h|(rw [hm] at *;simp at *)
   ·rw [if_pos ⟨hm,hw,ht⟩] at h
    repeat' ((conv=>whnf);first|(with_reducible first|refine Yd0 ?_|(refine Yd1 ?_ ?_<;>intro e h)|(refine Yd2 ?_ ?_<;>intro _)|refine Wq (by omega) (by omega) ?_)|refine XfK ?_|refine XaR ?_|refine Gm (h0 ht) hb ?_)
    all_goals first|exact finw rfl h|(rw [hm] at *;simp at *)
 ·rw [if_neg (by simp [hm])] at h
  repeat' ((conv=>whnf);first|(with_reducible first|refine Yd0 ?_|(refine Yd1 ?_ ?_<;>intro e h)|(refine Yd2 ?_ ?_<;>intro _)|refine Wq (by omega) (by omega) ?_)|refine XfK ?_|refine XaR ?_)
  all_goals first|exact finw rfl h|exact absurd (by assumption) hm
def bv (x:Bool):V:=.bool x
theorem XlO {f m:Bool}:RdC bv 169 (fun b=>[.ptr b 0,.bool f,.bool m]) (endedR f m):=by
 refine ⟨fun {st0 b s st rows K} hc h=>?_⟩
 simp only [endedR,Rd.Xi,Rd.Xy,Rd.wp_seq,Rd.wp_ret] at h
 have hc1:=hc.look
 refine Xa Xb [] Tryz.func169 rfl (by decide) ?_
 have hcl:Rd.wp closeR s (fun _ s'=>∀st',Cx st0 b s' st' rows→K (.ret (.bool true)) st') (fun e s'=>∀st',Cy st0 b s' st' rows→K (.pan (fault e.1)) st')→if (closeF s).2=true then mu (closeF s).1≤mu s∧∀st',Cx st0 b (closeF s).1 st' rows→K (.ret (.bool true)) st'
  else Rd.wp (badR:Rd Unit) s (fun _ s'=>∀st',Cx st0 b s' st' rows→K (.ret (.bool true)) st') (fun e s'=>∀st',Cy st0 b s' st' rows→K (.pan (fault e.1)) st'):=fun h=>by
  unfold closeR Rd.wp at h
  dsimp only at h
  split
  ·rename_i e;rw [if_pos e] at h;exact ⟨Hu e,h⟩
  ·rename_i e;rw [if_neg e] at h;exact h
 have hmu:=hc.mu
 cases f
 ·simp only [Bool.false_eq_true,if_false] at h
  cases m
  ·simp only [Bool.false_eq_true,if_false] at h
   repeat' ((conv=>whnf);first|(with_reducible first|refine Yd0 ?_|(refine Yd1 ?_ ?_<;>intro e h)|(refine Yd2 ?_ ?_<;>intro _)|refine Wq (by omega) (by omega) ?_)|refine Je hc.has hc.hb ?_|refine VF hc1 h (by omega) (fun s1 st1 hz hm hc h=>?_)|exact Zj hc1 h rfl|refine Qf hc (fun st1 hc=>?_)|refine Jk hc h (fun e s1 st1 hc h=>?_)|exact Yr0|refine Xf (fun e1=>?_)|exact Yr1|fail)
  ·simp only [if_true] at h
   repeat' ((conv=>whnf);first|refine Xe1 (hcl h) (fun e h=>?_) (fun e h=>?_)|(with_reducible first|refine Yd0 ?_|(refine Yd1 ?_ ?_<;>intro e h)|(refine Yd2 ?_ ?_<;>intro _)|refine Wq (by omega) (by omega) ?_)|refine Je hc.has hc.hb ?_|refine VF hc1 h (by omega) (fun s1 st1 hz hm hc h=>?_)|refine Xm (St.Xd ..) ?_|refine Xh3 hc.hb ?_|refine go_x hc1 (by omega) (fun st1 hc=>?_)|exact Zj hc h.2 rfl|refine Jk hc1 h (fun e s1 st1 hc h=>?_)|refine Qf hc (fun st1 hc=>?_)|refine Jk hc h (fun e s1 st1 hc h=>?_)|exact Yr0|refine Xf (fun e1=>?_)|exact Yr1|fail)
 ·simp only [if_true] at h
  by_cases hi:isF s 15 [125]=true
  ·rw [if_pos hi] at h
   obtain ⟨h1,h2⟩:(nextM s).1.kind=15∧(nextM s).1.text=[125]:=by
    unfold isF at hi
    simp only [Bool.and_eq_true,beq_iff_eq] at hi
    exact hi
   repeat' ((conv=>whnf);first|(with_reducible first|refine Yd0 ?_|(refine Yd1 ?_ ?_<;>intro e h)|(refine Yd2 ?_ ?_<;>intro _)|refine Wq (by omega) (by omega) ?_)|refine Je hc.has hc.hb ?_|refine VF hc1 h (by omega) (fun s1 st1 hz hm hc h=>?_)|refine Qf hc (fun st1 hc=>?_)|refine Jk hc h (fun e s1 st1 hc h=>?_)|exact Yr0|refine Xf (fun e1=>?_)|exact Yr1|fail)
  ·rw [if_neg hi] at h
   have hx:(nextM s).1.kind=15→¬(nextM s).1.text=[125]:=fun h1 h2=>hi (by unfold isF;rw [h1,h2];rfl)
   cases m
   ·simp only [Bool.false_eq_true,if_false] at h
    repeat' ((conv=>whnf);first|refine bc_no (beq_eq_false_iff_ne.2 (hx (by assumption))) ?_|(with_reducible first|refine Yd0 ?_|(refine Yd1 ?_ ?_<;>intro e h)|(refine Yd2 ?_ ?_<;>intro _)|refine Wq (by omega) (by omega) ?_)|refine Je hc.has hc.hb ?_|exact Zj hc1 h rfl|refine Qf hc (fun st1 hc=>?_)|refine Jk hc h (fun e s1 st1 hc h=>?_)|exact Yr0|refine Xf (fun e1=>?_)|exact Yr1|fail)
   ·simp only [if_true] at h
    repeat' ((conv=>whnf);first|refine bc_no (beq_eq_false_iff_ne.2 (hx (by assumption))) ?_|(with_reducible first|refine Yd0 ?_|(refine Yd1 ?_ ?_<;>intro e h)|(refine Yd2 ?_ ?_<;>intro _)|refine Wq (by omega) (by omega) ?_)|refine Je hc.has hc.hb ?_|refine Xm (St.Xd ..) ?_|refine Xh3 hc.hb ?_|refine Jk hc1 h (fun e s1 st1 hc h=>?_)|refine Qf hc (fun st1 hc=>?_)|refine Jk hc h (fun e s1 st1 hc h=>?_)|exact Yr0|refine Xf (fun e1=>?_)|exact Yr1|fail)
theorem Xa6 {f m m':Bool} (e:m'=m):RdC bv 169 (fun b=>[.ptr b 0,.bool f,.bool m]) (endedR f m'):=by rw [e];exact XlO
theorem not_t {b:Bool} (h:b=true):(!b)=false:=by rw [h];rfl
theorem not_f {b:Bool} (h:b=false):(!b)=true:=by rw [h];rfl
theorem Xg2 {l:List Nd} {own:Own}:Res.ret (enc (blockN false l))=(Res.ret (.agg [.int .i64 2,.int .i64 0,.str [],.int .i64 0,.int .i64 0,.slice 6 (l.map encN) own])).wk:=by unfold blockN;rw [XlK];rfl
theorem Xg3 {l:List Nd} {own:Own}:Res.ret (enc (blockN true l))=(Res.ret (.agg [.int .i64 2,.int .i64 1,.str [],.int .i64 0,.int .i64 0,.slice 6 (l.map encN) own])).wk:=by unfold blockN;rw [XlK];rfl
set_option maxHeartbeats 8000000 in
theorem Xbz {g i:FuncId} {starts:Tk→Bool} {item:Rd Nd} (hg:∀{t:Tk} {st:St} {K:Res→St→Prop},K (.ret (.bool (starts t))) st→PC g [encT t] st K) (hi:RdC enc i (fun b=>[pv b d]) item) (hF:Dv item):
 RdC enc 108 (fun b=>[.ptr b 0,.func g [] [],.func i [pv b d] []]) (blockR starts item):=by
 refine ⟨fun {st0 b s st rows K} hc h=>?_⟩
 simp only [blockR,Rd.Xi,Rd.Xy,Rd.wp_seq,Rd.wp_ret] at h
 have hmu:=hc.mu
 refine Xa Xb [] Tryz.func108 rfl (by decide) ?_
 repeat' ((conv=>whnf);first|(with_reducible first|exact Wa|exact Wb|exact Wc|refine Wd (by kernel_rfl) ?_|refine We ?_ ?_ ?_|refine W8 (by decide +kernel) ?_ ?_ ?_|refine W0 (by decide +kernel) ?_ ?_ ?_|refine W9 ?_ ?_ ?_|refine Yd0 ?_|(refine Yd1 ?_ ?_<;>intro e h)|(refine Yd2 ?_ ?_<;>intro _)|refine Wq (by omega) (by omega) ?_)|refine Qf hc (fun st1 hc=>?_)|refine XM.go hc h (fun n s1 st1 hr hm hc h=>?_) (fun e s1 st1 hc h=>?_)|exact Yr0|(refine Yr2 ?_;intro own1 st1 hc)|refine Xf (fun e1=>?_)|exact Yr1|refine VF hc h (by omega) (fun s1 st1 hz hm hc h=>?_)|refine Xk [(0,true),(1,true),(2,true),(3,true),(4,true),(5,true),(6,false),(7,false),(8,true),(9,false)] [] (by decide +kernel) ?_|refine Xk [(0,true),(1,true),(2,true),(3,false),(4,true),(5,false),(6,true),(7,false)] [1] (by decide +kernel) ?_|refine Xk [(0,true),(1,true),(2,true),(3,true),(4,true),(5,false),(6,false),(7,true),(8,false)] [] (by decide +kernel) ?_|with_reducible refine WF ?_)
 ·refine Qs (fun l own=>[]) (fun l own=>[(1,[.int .i64 2,.int .i64 0,.str [],.int .i64 0,.int .i64 0,.slice 6 (l.map encN) own])]) [0,1,2,6,7] [0] (fun l own=>(own,l)::rows) (fun l=>l.length) .full (hc.push []) h (by show 0+_≤_;omega) Yl ?_
  intro l s1 st1 own1 hc h hl hm1
  simp only [blockB,Rd.Xi,Rd.Xy,Rd.wp_seq,Rd.wp_ret,Rd.XT] at h
  repeat' ((conv=>whnf);first|(with_reducible first|exact Wa|exact Wb|exact Wc|refine Wd (by kernel_rfl) ?_|refine We ?_ ?_ ?_|refine W8 (by decide +kernel) ?_ ?_ ?_|refine W0 (by decide +kernel) ?_ ?_ ?_|refine W9 ?_ ?_ ?_|refine Yd0 ?_|(refine Yd1 ?_ ?_<;>intro e h)|(refine Yd2 ?_ ?_<;>intro _)|refine Wq (by omega) (by omega) ?_)|with_reducible refine WF ?_)
  unfold semisR at h
  refine Qs (fun _ _=>[]) (fun _ _=>[]) [0,1,2,6,7] [0,1] (fun _ _=>(own1,l)::rows) (fun _=>l.length) .full hc h hl Yl ?_
  intro u s2 st2 own2 hc h hl hm2
  simp only [semisB,Rd.Xi,Rd.Xy,Rd.wp_seq,Rd.wp_ret,Rd.XT] at h
  repeat' ((conv=>whnf);first|(with_reducible first|exact Wa|exact Wb|exact Wc|refine Wd (by kernel_rfl) ?_|refine We ?_ ?_ ?_|refine W8 (by decide +kernel) ?_ ?_ ?_|refine W0 (by decide +kernel) ?_ ?_ ?_|refine W9 ?_ ?_ ?_|refine Yd0 ?_|(refine Yd1 ?_ ?_<;>intro e h)|(refine Yd2 ?_ ?_<;>intro _)|refine Wq (by omega) (by omega) ?_)|refine Qf hc (fun st1 hc=>?_)|refine XM.go hc h (fun n s1 st1 hr hm hc h=>?_) (fun e s1 st1 hc h=>?_)|exact Yr0|(refine Yr2 ?_;intro own1 st1 hc)|refine Xf (fun e1=>?_)|exact Yr1|refine XeB ?_|refine hg ?_|refine VF hc h (Xbg (by assumption)) (fun s1 st1 hz hm hc h=>?_)|refine RdC.go (Xa6 (not_t (by assumption))) hc h (fun v s1 st1 hr hm hc h=>?_) (fun e s1 st1 hc h=>?_)|refine RdC.go (Xa6 (not_f (by assumption))) hc h (fun v s1 st1 hr hm hc h=>?_) (fun e s1 st1 hc h=>?_)|refine RdC.gof hi hF.falls hc h (fun n s1 st1 hr hm hc h=>?_) (fun e s1 st1 hc h=>?_)|exact Zj hc.drop h Xg2|refine Xk [(0,true),(1,true),(2,true),(3,true),(4,true),(5,true),(6,false),(7,false),(8,true),(9,false)] [] (by decide +kernel) ?_|refine Xk [(0,true),(1,true),(2,true),(3,false),(4,true),(5,false),(6,true),(7,false)] [1] (by decide +kernel) ?_|refine Xk [(0,true),(1,true),(2,true),(3,true),(4,true),(5,false),(6,false),(7,true),(8,false)] [] (by decide +kernel) ?_|with_reducible refine WF ?_)
  all_goals conv=>whnf
  all_goals exact ⟨⟨(),_,_,.full⟩,⟨hc,Rd.JL h (by omega),(by dsimp only;omega),(by dsimp only;omega)⟩,(by dsimp only;omega),Yl,St.le_refl _⟩
 ·refine Qs (fun l own=>[]) (fun l own=>[(1,[.int .i64 2,.int .i64 1,.str [],.int .i64 0,.int .i64 0,.slice 6 (l.map encN) own])]) [0,1,2,6,7] [0] (fun l own=>(own,l)::rows) (fun l=>l.length) .full (hc.push []) h (by show 0+_≤_;omega) Yl ?_
  intro l s1 st1 own1 hc h hl hm1
  simp only [blockB,Rd.Xi,Rd.Xy,Rd.wp_seq,Rd.wp_ret,Rd.XT] at h
  repeat' ((conv=>whnf);first|(with_reducible first|exact Wa|exact Wb|exact Wc|refine Wd (by kernel_rfl) ?_|refine We ?_ ?_ ?_|refine W8 (by decide +kernel) ?_ ?_ ?_|refine W0 (by decide +kernel) ?_ ?_ ?_|refine W9 ?_ ?_ ?_|refine Yd0 ?_|(refine Yd1 ?_ ?_<;>intro e h)|(refine Yd2 ?_ ?_<;>intro _)|refine Wq (by omega) (by omega) ?_)|with_reducible refine WF ?_)
  unfold semisR at h
  refine Qs (fun _ _=>[]) (fun _ _=>[]) [0,1,2,6,7] [0,1] (fun _ _=>(own1,l)::rows) (fun _=>l.length) .full hc h hl Yl ?_
  intro u s2 st2 own2 hc h hl hm2
  simp only [semisB,Rd.Xi,Rd.Xy,Rd.wp_seq,Rd.wp_ret,Rd.XT] at h
  repeat' ((conv=>whnf);first|(with_reducible first|exact Wa|exact Wb|exact Wc|refine Wd (by kernel_rfl) ?_|refine We ?_ ?_ ?_|refine W8 (by decide +kernel) ?_ ?_ ?_|refine W0 (by decide +kernel) ?_ ?_ ?_|refine W9 ?_ ?_ ?_|refine Yd0 ?_|(refine Yd1 ?_ ?_<;>intro e h)|(refine Yd2 ?_ ?_<;>intro _)|refine Wq (by omega) (by omega) ?_)|refine Qf hc (fun st1 hc=>?_)|refine XM.go hc h (fun n s1 st1 hr hm hc h=>?_) (fun e s1 st1 hc h=>?_)|exact Yr0|(refine Yr2 ?_;intro own1 st1 hc)|refine Xf (fun e1=>?_)|exact Yr1|refine XeB ?_|refine hg ?_|refine VF hc h (Xbg (by assumption)) (fun s1 st1 hz hm hc h=>?_)|refine RdC.go (Xa6 (not_t (by assumption))) hc h (fun v s1 st1 hr hm hc h=>?_) (fun e s1 st1 hc h=>?_)|refine RdC.go (Xa6 (not_f (by assumption))) hc h (fun v s1 st1 hr hm hc h=>?_) (fun e s1 st1 hc h=>?_)|refine RdC.gof hi hF.falls hc h (fun n s1 st1 hr hm hc h=>?_) (fun e s1 st1 hc h=>?_)|exact Zj hc.drop h Xg3|refine Xk [(0,true),(1,true),(2,true),(3,true),(4,true),(5,true),(6,false),(7,false),(8,true),(9,false)] [] (by decide +kernel) ?_|refine Xk [(0,true),(1,true),(2,true),(3,false),(4,true),(5,false),(6,true),(7,false)] [1] (by decide +kernel) ?_|refine Xk [(0,true),(1,true),(2,true),(3,true),(4,true),(5,false),(6,false),(7,true),(8,false)] [] (by decide +kernel) ?_|with_reducible refine WF ?_)
  all_goals conv=>whnf
  all_goals exact ⟨⟨(),_,_,.full⟩,⟨hc,Rd.JL h (by omega),(by dsimp only;omega),(by dsimp only;omega)⟩,(by dsimp only;omega),Yl,St.le_refl _⟩
end
section
variable {st:St} {R:Res→St→Prop}
attribute [local irreducible] Go.Aw.appendTo
set_option maxHeartbeats 8000000 in
theorem catch_g {f:FuncId} {c:Nat} {s:Sta} {deep:Int} {q:Rs} (hq:¬deep<1→∀(b:Nat) (st5:St) (R:Res→St→Prop),st.le st5→Has st5 b s→Tells st5 b R q→PC f [.ptr b 0,.int .i64 (if 100<deep then 100 else deep),.ptr c 0] st5 R) (h:R (.ret (encRT (catchR s deep q))) st):PC 49 [encS s,.int .i64 deep,.func f [] [.ptr c 0]] st R:=by
 refine PCalls.ends (GN Xb [6,7,8,9,12] Tryz.func49 rfl (by decide) rfl rfl rfl rfl rfl rfl ⟨_,Tryz.func95,rfl,by decide⟩ rfl ?_)
 repeat' ((conv=>whnf);first|(with_reducible first|exact Wa|exact Wb|exact Wc|refine Wd (by kernel_rfl) ?_|refine We ?_ ?_ ?_|refine W8 (by decide +kernel) ?_ ?_ ?_|refine W0 (by decide +kernel) ?_ ?_ ?_|refine W9 ?_ ?_ ?_|refine Yd0 ?_|(refine Yd1 ?_ ?_<;>intro e h)|(refine Yd2 ?_ ?_<;>intro _)|refine Wq (by omega) (by omega) ?_)|refine Xen (fun b5 f5=>?_)|refine Xm (St.Xd ..) ?_|with_reducible refine WF ?_)
 rename_i b1 f1 b2 f2 b3 f3 b4 f4
 obtain ⟨n12,f2a⟩:=XO f2
 obtain ⟨n23,f3a⟩:=XO f3
 obtain ⟨n13,f3b⟩:=XO f3a
 obtain ⟨n34,f4a⟩:=XO f4
 obtain ⟨n24,f4b⟩:=XO f4a
 obtain ⟨n14,f4c⟩:=XO f4b
 obtain ⟨n45,f5a⟩:=XO f5
 obtain ⟨n35,f5b⟩:=XO f5a
 obtain ⟨n25,f5c⟩:=XO f5b
 obtain ⟨n15,f5d⟩:=XO f5c
 conv=>whnf
 refine ⟨rfl,Xo rfl ?_⟩
 generalize hst5:St.setBox _ b5 [V.ptr b4 0]=st5
 have k1:st5.box b1=some zeroN:=by subst hst5;rw [St.Xj n15.symm,St.Xj n15.symm,St.Xj n14.symm,St.Xj n13.symm,St.Xj n12.symm,St.Xd];rfl
 have k2:st5.box b2=some [.slice 4 (encTs sta0.toks) .full,.int .i64 sta0.pos,.slice 1 (ints sta0.opn) .full,.int .i64 sta0.wait]:=by subst hst5;rw [St.Xj n25.symm,St.Xj n25.symm,St.Xj n24.symm,St.Xj n23.symm,St.Xd];rfl
 have k3:st5.box b3=some [.int .i64 0]:=by subst hst5;rw [St.Xj n35.symm,St.Xj n35.symm,St.Xj n34.symm,St.Xd]
 have k4:Has st5 b4 s:=by subst hst5;refine .inr ⟨tk0,sta0,.full,.full,0,?_⟩;rw [St.Xj n45.symm,St.Xj n45.symm,St.Xd];rfl
 have k5:st5.box b5=some [.ptr b4 0]:=by subst hst5;rw [St.Xd]
 have kle:st.le st5:=by
  subst hst5
  exact St.Xg (St.Xg (St.Xg (St.Xg (St.Xg (St.Xg (St.le_refl _) f1.1 _) f2a.1 _) f3b.1 _) f4c.1 _) f5d.1 _) f5d.1 _
 have kpan:∀(st6:St) (e:Int) (s':Sta),Upd st5 st6 b4 s'→st6.box b5=some [.ptr b4 0]∧st6.box b1=some zeroN∧st6.box b2=some [.slice 4 (encTs sta0.toks) .full,.int .i64 sta0.pos,.slice 1 (ints sta0.opn) .full,.int .i64 sta0.wait]∧st6.box b3=some [.int .i64 0]∧st.le st6:=by
  rintro st6 e s' ⟨_,cs,rfl⟩
  exact ⟨by rw [St.Xj n45];exact k5,by rw [St.Xj n14.symm];exact k1,by rw [St.Xj n24.symm];exact k2,by rw [St.Xj n34.symm];exact k3,St.Xg kle f4c.1 _⟩
 clear hst5 f2 f3 f4 f5 f3a f4a f4b f5a f5b f5c
 refine Xn (Xl Xb ?_)
 repeat' ((conv=>whnf);first|(with_reducible first|exact Wa|exact Wb|exact Wc|refine Wd (by kernel_rfl) ?_|refine We ?_ ?_ ?_|refine W8 (by decide +kernel) ?_ ?_ ?_|refine W0 (by decide +kernel) ?_ ?_ ?_|refine W9 ?_ ?_ ?_|refine Yd0 ?_|(refine Yd1 ?_ ?_<;>intro e h)|(refine Yd2 ?_ ?_<;>intro _)|refine Wq (by omega) (by omega) ?_)|refine Xm k5 ?_|refine Zv ?_|with_reducible refine WF ?_)
 ·refine close_some (n0:=nd0) (s0:=sta0) k5 k4 k1 k2 k3 n15 n14 n12 n13 n25 n24 n23 ?_
  have g1:(((st5.setBox b1 zeroN).setBox b2 s.cells).setBox b3 [.int .i64 2]).box b1=some zeroN:=by rw [St.Xj n13.symm,St.Xj n12.symm,St.Xd]
  have g2:(((st5.setBox b1 zeroN).setBox b2 s.cells).setBox b3 [.int .i64 2]).box b2=some s.cells:=by rw [St.Xj n23.symm,St.Xd]
  have gl:st.le (((st5.setBox b1 zeroN).setBox b2 s.cells).setBox b3 [.int .i64 2]):=St.Xg (St.Xg (St.Xg kle f1.1 _) f2a.1 _) f3b.1 _
  unfold catchR at h
  rw [if_pos (by assumption)] at h
  repeat' ((conv=>whnf);first|(with_reducible first|exact Wa|exact Wb|exact Wc|refine Wd (by kernel_rfl) ?_|refine We ?_ ?_ ?_|refine W8 (by decide +kernel) ?_ ?_ ?_|refine W0 (by decide +kernel) ?_ ?_ ?_|refine W9 ?_ ?_ ?_|refine Yd0 ?_|(refine Yd1 ?_ ?_<;>intro e h)|(refine Yd2 ?_ ?_<;>intro _)|refine Wq (by omega) (by omega) ?_)|refine Xm g1 ?_|refine Xm g2 ?_|refine Xm (St.Xd ..) ?_|with_reducible refine WF ?_)
  all_goals exact finl gl rfl h
 ·rename_i hd
  unfold catchR at h
  rw [if_neg hd] at h
  have hq:=fun st5 R h=>hq hd b4 st5 R h
  refine Xn (Xl Xb ?_)
  cases q with
  |inl q=>
   obtain ⟨e,s'⟩:=q
   repeat' ((conv=>whnf);first|(with_reducible first|exact Wa|exact Wb|exact Wc|refine Wd (by kernel_rfl) ?_|refine We ?_ ?_ ?_|refine W8 (by decide +kernel) ?_ ?_ ?_|refine W0 (by decide +kernel) ?_ ?_ ?_|refine W9 ?_ ?_ ?_|refine Yd0 ?_|(refine Yd1 ?_ ?_<;>intro e h)|(refine Yd2 ?_ ?_<;>intro _)|refine Wq (by omega) (by omega) ?_)|refine Xm k5 ?_|refine ⟨_,rfl,?_⟩|refine hq _ _ kle k4 (fun st6 hu=>?_)|with_reducible refine WF ?_)
   obtain ⟨j5,j1,j2,j3,jle⟩:=kpan st6 e s' hu
   refine close_some (n0:=nd0) (s0:=sta0) j5 hu.1 j1 j2 j3 n15 n14 n12 n13 n25 n24 n23 ?_
   have g1:(((st6.setBox b1 zeroN).setBox b2 s'.cells).setBox b3 [.int .i64 e]).box b1=some zeroN:=by rw [St.Xj n13.symm,St.Xj n12.symm,St.Xd]
   have g2:(((st6.setBox b1 zeroN).setBox b2 s'.cells).setBox b3 [.int .i64 e]).box b2=some s'.cells:=by rw [St.Xj n23.symm,St.Xd]
   have gl:st.le (((st6.setBox b1 zeroN).setBox b2 s'.cells).setBox b3 [.int .i64 e]):=St.Xg (St.Xg (St.Xg jle f1.1 _) f2a.1 _) f3b.1 _
   repeat' ((conv=>whnf);first|(with_reducible first|exact Wa|exact Wb|exact Wc|refine Wd (by kernel_rfl) ?_|refine We ?_ ?_ ?_|refine W8 (by decide +kernel) ?_ ?_ ?_|refine W0 (by decide +kernel) ?_ ?_ ?_|refine W9 ?_ ?_ ?_|refine Yd0 ?_|(refine Yd1 ?_ ?_<;>intro e h)|(refine Yd2 ?_ ?_<;>intro _)|refine Wq (by omega) (by omega) ?_)|refine Xm g1 ?_|refine Xm g2 ?_|refine Xm (St.Xd ..) ?_|with_reducible refine WF ?_)
   all_goals exact finl gl rfl h
  |inr q=>
   obtain ⟨n,s'⟩:=q
   have kret:=fun st6 hu=>kpan st6 0 s' hu
   repeat' ((conv=>whnf);first|(with_reducible first|exact Wa|exact Wb|exact Wc|refine Wd (by kernel_rfl) ?_|refine We ?_ ?_ ?_|refine W8 (by decide +kernel) ?_ ?_ ?_|refine W0 (by decide +kernel) ?_ ?_ ?_|refine W9 ?_ ?_ ?_|refine Yd0 ?_|(refine Yd1 ?_ ?_<;>intro e h)|(refine Yd2 ?_ ?_<;>intro _)|refine Wq (by omega) (by omega) ?_)|refine Xm k5 ?_|refine ⟨_,rfl,?_⟩|refine hq _ _ kle k4 (fun st6 hu=>?_)|refine Xm (kret st6 hu).2.1 ?_|with_reducible refine WF ?_)
   obtain ⟨j5,j1,j2,j3,jle⟩:=kret st6 hu
   generalize hst7:st6.setBox b1 (encN n)=st7
   have i1:st7.box b1=some (encN n):=by subst hst7;rw [St.Xd]
   have i5:st7.box b5=some [.ptr b4 0]:=by subst hst7;rw [St.Xj n15];exact j5
   have i2:st7.box b2=some [.slice 4 (encTs sta0.toks) .full,.int .i64 sta0.pos,.slice 1 (ints sta0.opn) .full,.int .i64 sta0.wait]:=by subst hst7;rw [St.Xj n12];exact j2
   have i3:(st7.setBox b2 s'.cells).box b3=some [.int .i64 0]:=by subst hst7;rw [St.Xj n23,St.Xj n13];exact j3
   have i4:Has st7 b4 s':=by
    subst hst7
    rcases hu.1 with e|⟨t,u,o1,o2,e',e⟩
    ·exact .inl (by rw [St.Xj n14];exact e)
    ·exact .inr ⟨t,u,o1,o2,e',by rw [St.Xj n14];exact e⟩
   have ile:st.le st7:=by subst hst7;exact St.Xg jle f1.1 _
   refine Xn (XgI Xb (Qg _) (fun bs=>catchE bs b1 b2 b3 b4 b5 (encN n) s'.cells) (catchS st7 b2 b3 s'.cells) catchPL (by decide +kernel) Yl (by rw [←hst7];exact St.le_refl _) ?_ ?_)
   ·skip
    unfold catchPL
    rcases i4 with i4|⟨t,u,q1,q2,q3,i4⟩
    all_goals repeat' (first|refine List.forall_mem_cons.2 ⟨?_,?_⟩|exact fun _ h=>nomatch h)
    repeat' ((conv=>whnf);first|(with_reducible first|exact Wa|exact Wb|exact Wc|refine Wd (by kernel_rfl) ?_|refine We ?_ ?_ ?_|refine W8 (by decide +kernel) ?_ ?_ ?_|refine W0 (by decide +kernel) ?_ ?_ ?_|refine W9 ?_ ?_ ?_|refine Yd0 ?_|(refine Yd1 ?_ ?_<;>intro e h)|(refine Yd2 ?_ ?_<;>intro _)|refine Wq (by omega) (by omega) ?_)|refine Xm i5 ?_|refine Xm i1 ?_|refine Xm i4 ?_|refine Xm i2 ?_|refine Xm i3 ?_|with_reducible refine WF ?_)
    all_goals conv=>whnf
    all_goals (refine ⟨Yl,?_⟩)
    all_goals first|exact St.le_refl _|exact Xiy i1
   ·refine Xl Xb (XbC (bp:=b5) ?_)
    have g1:((st7.setBox b2 s'.cells).setBox b3 [.int .i64 0]).box b1=some (encN n):=by rw [St.Xj n13.symm,St.Xj n12.symm];exact i1
    have g2:((st7.setBox b2 s'.cells).setBox b3 [.int .i64 0]).box b2=some s'.cells:=by rw [St.Xj n23.symm,St.Xd]
    have gl:st.le ((st7.setBox b2 s'.cells).setBox b3 [.int .i64 0]):=St.Xg (St.Xg ile f2a.1 _) f3b.1 _
    repeat' ((conv=>whnf);first|(with_reducible first|exact Wa|exact Wb|exact Wc|refine Wd (by kernel_rfl) ?_|refine We ?_ ?_ ?_|refine W8 (by decide +kernel) ?_ ?_ ?_|refine W0 (by decide +kernel) ?_ ?_ ?_|refine W9 ?_ ?_ ?_|refine Yd0 ?_|(refine Yd1 ?_ ?_<;>intro e h)|(refine Yd2 ?_ ?_<;>intro _)|refine Wq (by omega) (by omega) ?_)|refine Xm g1 ?_|refine Xm g2 ?_|refine Xm (St.Xd ..) ?_|with_reducible refine WF ?_)
    all_goals exact finl gl rfl h
end
def rsOf (A:Rd Nd) (s:Sta):Rs:=match A.run s with
 | .inl p=>.inl (p.1.1,p.2)
 | .inr p=>.inr p
section
variable {st0 st:St} {b c d:Nat} {s:Sta} {K R:Res→St→Prop}
theorem Cx.upd0 {s':Sta} {st':St} (h:Has st' b s') (hr:∃cs,Rx (st.setBox b cs) st' []):∃st2,Upd st st2 b s'∧St.le st2 st':=by
 obtain ⟨cs,hr⟩:=hr
 have hb:=hr.le.1 b cs (St.Xd ..)
 refine ⟨st.setBox b cs,⟨?_,cs,rfl⟩,hr.le⟩
 rcases h with e|⟨t,u,o1,o2,e0,e⟩
 ·rw [hb] at e;injection e with e;subst e;exact .inl (St.Xd ..)
 ·rw [hb] at e;injection e with e;subst e;exact .inr ⟨t,u,o1,o2,e0,St.Xd ..⟩
theorem Xnq {f:FuncId} {mk:Nat→List V} {A:Rd Nd} (hf:RdC enc f mk A) (hs:Has st b s) (hm:mu s≤100000000) (ht:Tells st b K (rsOf A s)):PC f (mk b) st K:=by
 refine PCalls.ends (hf.ap (Cx.start hs hm) (Rd.Xgz (fun v s' e st' hc=>?_) (fun e s' he st' hc=>?_)))
 ·unfold rsOf at ht
  rw [e] at ht
  obtain ⟨st2,hu,hl⟩:=Cx.upd0 hc.has hc.rx
  exact ⟨_,st2,.inl rfl,hl,ht st2 hu⟩
 ·unfold rsOf at ht
  rw [he] at ht
  obtain ⟨st2,hu,hl⟩:=Cx.upd0 hc.has hc.rx
  exact ⟨_,st2,.inl rfl,hl,ht st2 hu⟩
theorem run1_c {g:FuncId} {A:Rd Nd} (hA:RdC enc g (fun b=>[pv b d]) A) (hx:st.box c=some [.func g [] []]) (hs:Has st b s) (hm:mu s≤100000000) (ht:Tells st b K (rsOf A s)):PC 107 [.ptr b 0,.int .i64 (d:Int),.ptr c 0] st K:=by
 have hk:∀{K:Res→St→Prop},Tells st b K (rsOf A s)→PC g [pv b d] st K:=fun h=>Xnq hA hs hm h
 refine Xa Xb [] Tryz.func107 rfl (by decide) ?_
 unfold rsOf at *
 cases hr:A.run s with
 |inl p=>
  rw [hr] at ht hk
  repeat' ((conv=>whnf);first|(with_reducible first|refine Yd0 ?_|(refine Yd1 ?_ ?_<;>intro e h)|(refine Yd2 ?_ ?_<;>intro _))|refine Xm hx ?_|refine hk (fun st1 hu=>?_))
  all_goals exact ⟨_,_,.inl rfl,St.le_refl _,ht _ hu⟩
 |inr p=>
  rw [hr] at ht hk
  repeat' ((conv=>whnf);first|(with_reducible first|refine Yd0 ?_|(refine Yd1 ?_ ?_<;>intro e h)|(refine Yd2 ?_ ?_<;>intro _))|refine Xm hx ?_|refine hk (fun st1 hu=>?_))
  all_goals exact finw rfl (ht _ hu)
theorem XlR {g:FuncId} {deep:Int} {A:Nat→Rd Nd} (hA:∀d:Nat,1≤d→d≤100→RdC enc g (fun b=>[pv b d]) (A d)) (hm:mu s≤100000000) (h:K (.ret (encRT (catchR s deep (rsOf (A (depF deep)) s)))) st):
 PC 55 [encS s,.int .i64 deep,.func g [] []] st K:=by
 refine XV Xb [] Tryz.func55 rfl (by decide) rfl ?_
 refine Xn (Xl Xb ?_)
 repeat' ((conv=>whnf);first|(with_reducible first|refine Yd0 ?_|(refine Yd1 ?_ ?_<;>intro e h)|(refine Yd2 ?_ ?_<;>intro _)))
 refine XdG 5 1 rfl rfl rfl (fun c fc=>?_)
 refine Xl Xb ?_
 have hq:¬deep<1→∀(b:Nat) (st5:St) (R:Res→St→Prop),(st.setBox c [.func g [] []]).le st5→Has st5 b s→Tells st5 b R (rsOf (A (depF deep)) s)→PC 107 [.ptr b 0,.int .i64 (if 100<deep then 100 else deep),.ptr c 0] st5 R:=fun hd b st5 R hle hs ht=>by
  have e:(if 100<deep then 100 else deep)=((depF deep:Nat):Int):=by unfold depF;split<;>omega
  rw [e]
  exact run1_c (hA _ (by unfold depF;split<;>omega) (by unfold depF;split<;>omega)) (hle.1 _ _ (St.Xd ..)) hs hm ht
 obtain ⟨n,s',e,hq3⟩:∃n s' e,catchR s deep (rsOf (A (depF deep)) s)=(n,s',e):=⟨_,_,_,rfl⟩
 rw [hq3] at h
 have hcat:∀{K:Res→St→Prop},K (.ret (encR3 n s' e)) (st.setBox c [.func g [] []])→PC 49 [encS s,.int .i64 deep,.func 107 [] [.ptr c 0]] (st.setBox c [.func g [] []]) K:=fun k=>catch_g (s:=s) (q:=rsOf (A (depF deep)) s) hq (by rw [hq3];exact k)
 repeat' ((conv=>whnf);first|(with_reducible first|refine Yd0 ?_|(refine Yd1 ?_ ?_<;>intro e h)|(refine Yd2 ?_ ?_<;>intro _))|refine hcat ?_)
 all_goals exact finl (St.Xg (St.le_refl _) fc.1 _) rfl h
end
section
variable {d:Nat}
theorem Xlj {t:Tk} {st:St} {K:Res→St→Prop} (h:K (.ret (.bool (declsF t))) st):PC 109 [encT t] st K:=by
 refine Xa Xb [] Tryz.func109 rfl (by decide) ?_
 repeat' ((conv=>whnf);first|(with_reducible first|refine Yd0 ?_|(refine Yd1 ?_ ?_<;>intro e h)|(refine Yd2 ?_ ?_<;>intro _))|refine Xbx ?_|refine Xiq ?_)
 all_goals conv=>whnf
 all_goals (refine Xq h ?_;clear h;simp_all [declsF])
theorem Xjf {item:Rd Nd} (hi:RdC enc 72 (fun b=>[pv b d]) item) (hD:Dv item):RdC enc 56 (fun b=>[pv b d]) (blockR declsF item):=by
 refine ⟨fun {st0 b s st rows K} hc h=>?_⟩
 refine Xa Xb [] Tryz.func56 rfl (by decide) ?_
 repeat' ((conv=>whnf);first|(with_reducible first|refine Yd0 ?_|(refine Yd1 ?_ ?_<;>intro e h)|(refine Yd2 ?_ ?_<;>intro _))|exact Yr0|refine Xf (fun e1=>?_)|exact Yr1|refine RdC.go (Xbz (fun h=>Xlj h) hi hD) hc h (fun n s1 st1 hr hm hc h=>?_) (fun e s1 st1 hc h=>?_))
theorem Xjg {item:Rd Nd} (hi:RdC enc 60 (fun b=>[pv b d]) item) (hD:Dv item):RdC enc 78 (fun b=>[pv b d]) (blockR beginsF item):=by
 refine ⟨fun {st0 b s st rows K} hc h=>?_⟩
 refine Xa Xb [] Tryz.func78 rfl (by decide) ?_
 repeat' ((conv=>whnf);first|(with_reducible first|refine Yd0 ?_|(refine Yd1 ?_ ?_<;>intro e h)|(refine Yd2 ?_ ?_<;>intro _))|exact Yr0|refine Xf (fun e1=>?_)|exact Yr1|refine RdC.go (Xbz (fun h=>Xbx h) hi hD) hc h (fun n s1 st1 hr hm hc h=>?_) (fun e s1 st1 hc h=>?_))
theorem Xk7 {item:Rd Nd} (hi:RdC enc 69 (fun b=>[pv b d]) item) (hD:Dv item):RdC enc 79 (fun b=>[pv b d]) (blockR beginsF item):=by
 refine ⟨fun {st0 b s st rows K} hc h=>?_⟩
 refine Xa Xb [] Tryz.func79 rfl (by decide) ?_
 repeat' ((conv=>whnf);first|(with_reducible first|refine Yd0 ?_|(refine Yd1 ?_ ?_<;>intro e h)|(refine Yd2 ?_ ?_<;>intro _))|exact Yr0|refine Xf (fun e1=>?_)|exact Yr1|refine RdC.go (Xbz (fun h=>Xbx h) hi hD) hc h (fun n s1 st1 hr hm hc h=>?_) (fun e s1 st1 hc h=>?_))
structure Lev (D:Nat) (full:Rd Nd) (L:Low):Prop where
 atom:RdC enc 202 (fun b=>[pv b D]) (atomL L)
 exp:RdC enc 80 (fun b=>[pv b D]) (expL full L)
 ops:RdC enc 130 (fun b=>[pv b D]) (opsL L)
 stmt:RdC enc 60 (fun b=>[pv b D]) (stmtL full L)
 alt:RdC enc 69 (fun b=>[pv b D]) (altL full L)
 decl:RdC enc 72 (fun b=>[pv b D]) (declL full L)
 decls:RdC enc 56 (fun b=>[pv b D]) (blockR declsF (declL full L))
 stmts:RdC enc 78 (fun b=>[pv b D]) (blockR beginsF (stmtL full L))
 alts:RdC enc 79 (fun b=>[pv b D]) (blockR beginsF (altL full L))
 brack:∀o,RdC enc 340 (fun b=>[pv b D,enc o]) (bracketedR (opdL L) full (expL full L) o)
 list:∀o,RdC enc 342 (fun b=>[pv b D,enc o]) (listR (expL full L) (stmtL full L) o)
theorem lev {full:Rd Nd} {L:Low} (hL:LowC d L) (hD:DvL L) (hf:RdC enc 203 (fun b=>[pv b d]) full) (hF:Dv full):Lev d full L:=by
 have atom:=atom_rd hL
 have dat:=Gr hD
 have opd:=Xhp hL atom Xfr
 have ops:=XmQ opd
 have exp:=exp_rd opd hf
 have stmt:=stmt_rd hL exp
 have alt:=alt_rd hL ops exp stmt
 have decl:=decl_rd hL atom dat ops (XbO (Hy hD)) exp stmt hf
 exact ⟨atom,exp,ops,stmt,alt,decl,Xjf decl (XbL hF hD),Xjg stmt (UO hF hD),Xk7 alt (Xh8 hF hD),fun o=>XdL opd hf exp,fun o=>list_rd exp stmt⟩
theorem lowC:∀d,d≤100→LowC (d+1) (lowR d)
 |0,_=>⟨QJ (by omega) (fun _=>rfl) (fun h=>absurd rfl h),QJ (by omega) (fun _=>rfl) (fun h=>absurd rfl h),QJ (by omega) (fun _=>rfl) (fun h=>absurd rfl h),QJ (by omega) (fun _=>rfl) (fun h=>absurd rfl h),
   QJ (by omega) (fun _=>rfl) (fun h=>absurd rfl h),QJ (by omega) (fun _=>rfl) (fun h=>absurd rfl h),fun hx hc h=>Xa7 (by omega) (fun _=>rfl) hc h (fun h=>absurd rfl h),fun hx hc h=>Xa7 (by omega) (fun _=>rfl) hc h (fun h=>absurd rfl h)⟩
 |d+1,h=>by
  have l:=lev (lowC d (by omega)) (XbN d) (Xir (d:=d) (by omega)) (UN _)
  have no:∀{p:Prop},d+1=0→p:=fun e=>by cases e
  exact ⟨QJ (by omega) no fun _=>l.atom,QJ (by omega) no fun _=>l.exp,QJ (by omega) no fun _=>l.ops,QJ (by omega) no fun _=>l.decls,QJ (by omega) no fun _=>l.stmts,QJ (by omega) no fun _=>l.alts,
   fun hx hc h=>Xa7 (by omega) no hc h fun _ K h=>Xm3 (l.brack _) hx hc h,fun hx hc h=>Xa7 (by omega) no hc h fun _ K h=>Xku (l.list _) hx hc h⟩
theorem levD (h0:1≤d) (h:d≤100):Lev d (fullL d) (lowR (d - 1)):=by
 obtain ⟨d,rfl⟩:∃e,d=e+1:=⟨d - 1,by omega⟩
 exact lev (lowC d (by omega)) (XbN d) (Xir (d:=d) (by omega)) (UN _)
def expD (d:Nat):Rd Nd:=expL (fullL d) (lowR (d - 1))
def declD (d:Nat):Rd Nd:=declL (fullL d) (lowR (d - 1))
def declsD (d:Nat):Rd Nd:=blockR declsF (declD d)
end
section
variable {st:St} {K:Res→St→Prop} {s:Sta} {deep:Int}
theorem xexp_c (hm:mu s≤100000000) (h:K (.ret (encRT (catchR s deep (rsOf (expD (depF deep)) s)))) st):PC 36 [encS s,.int .i64 deep] st K:=by
 refine Xa Xb [] Tryz.func36 rfl (by decide) ?_
 repeat' ((conv=>whnf);first|(with_reducible first|refine Yd0 ?_|(refine Yd1 ?_ ?_<;>intro e h)|(refine Yd2 ?_ ?_<;>intro _))|refine XlR (s:=s) (A:=expD) (fun d h0 h1=>(levD h0 h1).exp) hm ?_)
 all_goals exact finw rfl h
theorem XnG (hm:mu s≤100000000) (h:K (.ret (encRT (catchR s deep (rsOf (declsD (depF deep)) s)))) st):PC 20 [encS s,.int .i64 deep] st K:=by
 refine Xa Xb [] Tryz.func20 rfl (by decide) ?_
 repeat' ((conv=>whnf);first|(with_reducible first|refine Yd0 ?_|(refine Yd1 ?_ ?_<;>intro e h)|(refine Yd2 ?_ ?_<;>intro _))|refine XlR (s:=s) (A:=declsD) (fun d h0 h1=>(levD h0 h1).decls) hm ?_)
 all_goals exact finw rfl h
end
end Go.Proofs.YtkidoddkbhchkaaGreatDoor
namespace Go.Proofs.YtkidoddkbhchkaaGreatDoor
open Go Go.Aw
open Rd (Ap)
theorem tkOk_of {l:List Tk} (h:tkOkB l=true):TkOk l:=fun t ht=>by
 have:=List.all_eq_true.1 h t ht
 simp only [Bool.and_eq_true,decide_eq_true_eq] at this
 exact ⟨this.1,this.2.1,this.2.2⟩
theorem ed0:∃x,lexF ewk1=.inr x∧x.toks=etok:=by
 have h:=ewk1_eq
 unfold etok
 cases e:lexF ewk1 with
 |inl p=>rw [e] at h;cases h
 |inr x=>exact ⟨x,rfl,rfl⟩
theorem ed1:∃n s',(declsD 5).run esta=.inr (n,s')∧n.kind=2∧n.form=0∧s'.pos=(s'.toks.length:Nat)∧∃k1 k2,n.kids=[k1,k2]∧k1.kind=36∧k2.kind=35:=by
 have h:=echk1
 cases e:(declsD 5).run esta with
 |inl p=>rw [show (blockR declsF (declL (fullL 5) (lowR 4))).run esta=_ from e] at h;cases h
 |inr p=>
  obtain ⟨n,s'⟩:=p
  rw [show (blockR declsF (declL (fullL 5) (lowR 4))).run esta=_ from e] at h
  simp only [Bool.and_eq_true,beq_iff_eq] at h
  obtain ⟨⟨h1,h2⟩,h3,h4⟩:=h
  refine ⟨n,s',rfl,h1,h2,h3,?_⟩
  match hk:n.kids,h4 with
  |[k1,k2],h4=>
   simp only [List.map_cons,List.map_nil,List.cons.injEq,and_true] at h4
   exact ⟨k1,k2,rfl,h4.1,h4.2⟩
  |[],h4=>simp at h4
  |[_],h4=>simp at h4
  |_::_::_::_,h4=>simp at h4
theorem ed2:∃n s',(expD 2).run ⟨ewk2,0,[],0⟩=.inr (n,s')∧n.kind=9:=by
 have h:=echk2
 cases e:(expD 2).run ⟨ewk2,0,[],0⟩ with
 |inl p=>rw [show (expL (fullL 2) (lowR 1)).run ⟨ewk2,0,[],0⟩=_ from e] at h;cases h
 |inr p=>
  obtain ⟨n,s'⟩:=p
  rw [show (expL (fullL 2) (lowR 1)).run ⟨ewk2,0,[],0⟩=_ from e] at h
  simp only [beq_iff_eq] at h
  exact ⟨n,s',rfl,h⟩
theorem Xe5 {s s':Sta} {deep:Int} {A:Nat→Rd Nd} {n:Nd} (hd:¬deep<1) (e:(A (depF deep)).run s=.inr (n,s')):catchR s deep (rsOf (A (depF deep)) s)=(n,s',0):=by
 unfold catchR rsOf
 rw [if_neg hd,e]
section
variable {st:St} {K:Res→St→Prop}
theorem lexe_r {s:List UInt8} {x:Lx} (hs:lexF s=.inr x) (h:∀w1 w2 st',st.le st'→K (.ret (.tup [.slice 4 (encTs x.toks) w1,.slice 5 (encNs x.notes) w2,.int .i64 0,.int .i64 0])) st'):PC 13 [.str s] st K:=by
 refine lex_c (fun i' e' he=>?_) (fun i' e' st' hle he=>?_) (fun x w1 w2 st' he hle=>?_)
 ·rw [hs] at he;cases he
 ·rw [hs] at he;cases he
 ·rw [hs] at he;injection he with he;subst he;exact h w1 w2 st' hle
theorem eread_c {s:List UInt8} {x:Lx} (hs:lexF s=.inr x) (hok:TkOk x.toks) (hn:x.toks.length≤100000000) (h:∀st',st.le st'→K (.ret (encS ⟨markF x.toks,0,[],0⟩)) st'):PC 19 [.str s] st K:=by
 refine Xa Xb [] Tryz.func19 rfl (by decide) ?_
 repeat' ((conv=>whnf);first|(with_reducible first|refine Yb0 ?_|(refine Yb1 ?_ ?_<;>intro _))|refine lexe_r hs (fun w1 w2 st1 hle1=>?_)|refine mmark_c hok hn ?_)
 all_goals exact ⟨_,_,.inr rfl,St.le_refl _,h st1 hle1⟩
theorem Uj {s s':Sta} {deep e:Int} {n:Nd} (hm:mu s≤100000000) (hq:catchR s deep (rsOf (declsD (depF deep)) s)=(n,s',e)) (h:K (.ret (encR3 n s' e)) st):PC 20 [encS s,.int .i64 deep] st K:=XnG hm (by rw [hq];exact h)
theorem XhN {s s':Sta} {deep e:Int} {n:Nd} (hm:mu s≤100000000) (hq:catchR s deep (rsOf (expD (depF deep)) s)=(n,s',e)) (h:K (.ret (encR3 n s' e)) st):PC 36 [encS s,.int .i64 deep] st K:=xexp_c hm (by rw [hq];exact h)
theorem Jl (h:∀st',st.le st'→K (.ret (.bool true)) st'):PC 18 [] st K:=by
 refine Xa Xb [] Tryz.func18 rfl (by decide) ?_
 obtain ⟨x,hx,hxt⟩:=ed0
 have hok:=etok_ok
 simp only [Bool.and_eq_true,decide_eq_true_eq] at hok
 have hms:=of_decide_eq_true esta_ok
 obtain ⟨n,s1,r1,a1,a2,a3,k1,k2,a4,a5,a6⟩:=ed1
 obtain ⟨m,s2,r2,b1⟩:=ed2
 have hk0:n.kids[(0:Int).toNat]? =some k1:=by rw [a4];rfl
 have hk1:n.kids[(1:Int).toNat]? =some k2:=by rw [a4];rfl
 have hkl:(n.kids.length:Int)=2:=by rw [a4];rfl
 have hm1:mu ⟨markF x.toks,0,[],0⟩≤100000000:=by rw [hxt];unfold mu;simp only [List.length_nil];omega
 have hm2:mu ⟨ewk2,0,[],0⟩≤100000000:=by decide
 have c1:catchR ⟨markF x.toks,0,[],0⟩ 5 (rsOf (declsD (depF 5)) ⟨markF x.toks,0,[],0⟩)=(n,s1,0):=by rw [hxt];exact Xe5 (A:=declsD) (by decide) r1
 have c2:catchR ⟨ewk2,0,[],0⟩ 2 (rsOf (expD (depF 2)) ⟨ewk2,0,[],0⟩)=(m,s2,0):=Xe5 (A:=expD) (by decide) r2
 have hc2:∀{st:St} {K:Res→St→Prop},K (.ret (encR3 m s2 0)) st→PC 36 [.agg [.slice 4 (encTs ewk2) .full,.int .i64 0,.slice 1 [] .full,.int .i64 0],.int .i64 2] st K:=fun h=>Vv (args':=[encS ⟨ewk2,0,[],0⟩,.int .i64 2]) rfl (XhN hm2 c2 h)
 repeat' ((conv=>whnf);first|(with_reducible first|refine Yb0 ?_|(refine Yb1 ?_ ?_<;>intro _)|refine Wl (fun _=>?_)|refine Wm (by assumption) (by omega) ?_|refine Wn (by omega) (by omega) (fun _ _ _=>?_)|refine Wz (fun _=>?_)|refine WA (fun _=>?_)|refine WB (by assumption) (by omega) ?_|refine WC (by omega) (by omega) (fun _ _=>?_)|refine WD (by omega) (by omega) (fun _ _=>?_))|refine eread_c hx (by rw [hxt]<;>exact tkOk_of hok.1) (by rw [hxt]<;>omega) (fun st1 hle1=>?_)|refine Uj hm1 c1 ?_|refine hc2 ?_)
 all_goals conv=>whnf
 all_goals exact fin (h st1 hle1) rfl
end
theorem Xi4 {d d':Nat} (h:d≤d'):Ap (declsD d) (declsD d'):=
 have hl:=Xmv (d:=d - 1) (d':=d' - 1) (by omega)
 have hf:=XhT h
 Gi (XhS hl (Xa1 hl) (Xbp (Hf hl)) (Uk hf hl) (UJ hf hl) hf)
theorem deeperE {d m:Int} (h:d≤m) (s:Sta) (hn:¬(catchR s d (rsOf (declsD (depF d)) s)).2.2=2):catchR s m (rsOf (declsD (depF m)) s)=catchR s d (rsOf (declsD (depF d)) s):=by
 unfold catchR at *
 by_cases h1:d<1
 ·rw [if_pos h1] at hn;exact absurd rfl hn
 ·rw [if_neg h1] at hn ⊢
  rw [if_neg (by omega)]
  rcases Xi4 (d:=depF d) (d':=depF m) (by unfold depF;split<;>split<;>omega) s with ⟨e,t,h2,h3⟩|h2
  ·unfold rsOf at hn
   rw [h2] at hn
   exact absurd h3 hn
  ·unfold rsOf;rw [h2]
theorem emu {s:Sta} (h:s.toks.length≤1000∧s.opn.length≤1000):mu s≤100000000:=by unfold mu;omega
section
variable {st:St} {K:Res→St→Prop}
theorem JV {s:Sta} {v:Bool} (hv:v=(decide (s.toks.length≤1000)&&decide (s.opn.length≤1000))) (h:K (.ret (.bool v)) st):PC 23 [encS s] st K:=by
 refine Xa Xb [] Tryz.func23 rfl (by decide) ?_
 repeat' ((conv=>whnf);first|(with_reducible first|refine Yb0 ?_|(refine Yb1 ?_ ?_<;>intro _)|refine Wl (fun _=>?_)|refine Wz (fun _=>?_)|refine WA (fun _=>?_)))
 all_goals conv=>whnf
 all_goals (refine Xq h ?_;clear h;rw [hv])
 all_goals simp only [Bool.and_eq_true,decide_eq_true_eq,Bool.and_eq_false_iff,decide_eq_false_iff_not]
 all_goals omega
theorem XdX {R:Res→St→Prop} {s:Sta} {deep more:Int} (h:∀st',R (.ret (.bool true)) st'):PC 5 [encS s,.int .i64 deep,.int .i64 more] st R:=by
 refine Xa Xb [] Tryz.func5 rfl (by decide) ?_
 by_cases hs:s.toks.length≤1000∧s.opn.length≤1000
 ·have hm:=emu hs
  have hv:true=(decide (s.toks.length≤1000)&&decide (s.opn.length≤1000)):=by simp [hs]
  by_cases hd:more<deep
  ·skip
   repeat' ((conv=>whnf);first|(with_reducible first|refine Yb0 ?_|(refine Yb1 ?_ ?_<;>intro _)|refine Wq (by omega) (by omega) ?_)|refine JV hv ?_|refine Jl (fun st1 hle1=>?_))
   all_goals exact fin (h _) rfl
  ·generalize hq:catchR s deep (rsOf (declsD (depF deep)) s)=q
   have hq2:=deeperE (d:=deep) (m:=more) (by omega) s
   rw [hq] at hq2
   obtain ⟨n,t,e⟩:=q
   by_cases he:e=2
   ·skip
    repeat' ((conv=>whnf);first|(with_reducible first|refine Yb0 ?_|(refine Yb1 ?_ ?_<;>intro _)|refine Wq (by omega) (by omega) ?_)|refine JV hv ?_|refine Jl (fun st1 hle1=>?_)|refine Uj hm hq ?_)
    all_goals exact fin (h _) rfl
   ·have hq2:=hq2 he
    repeat' ((conv=>whnf);first|(with_reducible first|refine Yb0 ?_|(refine Yb1 ?_ ?_<;>intro _)|refine Wq (by omega) (by omega) ?_)|refine JV hv ?_|refine Jl (fun st1 hle1=>?_)|refine Uj (deep:=deep) hm hq ?_|refine Uj (deep:=more) hm hq2 ?_|refine Xkm _ (Nat.le_refl _) ?_|refine Xga ?_)
    all_goals exact fin (h _) rfl
 ·have hv:false=(decide (s.toks.length≤1000)&&decide (s.opn.length≤1000)):=by
   symm;simp only [Bool.and_eq_false_iff,decide_eq_false_iff_not];omega
  repeat' ((conv=>whnf);first|(with_reducible first|refine Yb0 ?_|(refine Yb1 ?_ ?_<;>intro _)|refine Wq (by omega) (by omega) ?_)|refine JV hv ?_|refine Jl (fun st1 hle1=>?_))
  all_goals exact fin (h _) rfl
end
end Go.Proofs.YtkidoddkbhchkaaGreatDoor
namespace Go.Proofs.YtkidoddkbhchkaaGreatDoor
open Go Go.Aw
section
variable {H:Type}
theorem XgL:Tryz.prog.cellsOf 3=1:=by kernel_rfl
theorem Xjn {n:Nat} {d:DataW H} {vs:List V} (h:dec Tryz.prog n 31 d=some vs):∃l:List Int,vs=[.slice 1 (ints l) .any]:=by
 obtain ⟨m,es,ds,rfl,rfl,hes,hb⟩:=Xc8 Tryz.underlying31 h
 obtain ⟨l,rfl,hs⟩:=XbG (f:=fun n=>[V.int .i64 n]) (w:=fun _=>0) (fun d vs h=>by
  obtain ⟨k,rfl⟩:=ZW Tryz.underlying3 h
  exact ⟨k,rfl,Nat.zero_le _⟩) hes
 exact ⟨l,by rw [XgL];rfl⟩
theorem Xc9 {n:Nat} {d:DataW H} {vs:List V} (h:dec Tryz.prog n 33 d=some vs):∃s:Sta,vs=s.cells:=by
 obtain ⟨m,ds,us,rfl,hl,hm,rfl,hb⟩:=XbH Tryz.underlying33 h
 match ds,hl with
 |[d0,d1,d2,d3],_=>
  simp only [List.zip_cons_cons,List.zip_nil_right] at hm
  obtain ⟨u0,r0,h0,hm0,rfl⟩:=Qa hm
  obtain ⟨u1,r1,h1,hm1,rfl⟩:=Qa hm0
  obtain ⟨u2,r2,h2,hm2,rfl⟩:=Qa hm1
  obtain ⟨u3,r3,h3,hm3,rfl⟩:=Qa hm2
  cases hm3
  obtain ⟨ts,rfl,_⟩:=Xjo h0
  obtain ⟨p,rfl⟩:=ZW Tryz.underlying3 h1
  obtain ⟨os,rfl⟩:=Xjn h2
  obtain ⟨w,rfl⟩:=ZW Tryz.underlying3 h3
  exact ⟨⟨ts,p,os,w⟩,rfl⟩
end
section
variable {st:St} {R:Res→St→Prop}
def rcntF (k:Int) (t:List UInt8):Bool:=decide (¬k=15)||(!(t==[123])&& !(t==[125])&& !(t==[59]))
theorem Xdv {k ln col:Int} {t:List UInt8} (h:R (.ret (.bool (rcntF k t))) st):PC 81 [.agg [.int .i64 k,.str t,.int .i64 ln,.int .i64 col]] st R:=by
 refine Xa Xb [] Tryz.func81 rfl (by decide) ?_
 unfold rcntF at h
 repeat' ((conv=>whnf);first|(with_reducible first|refine Yb0 ?_|(refine Yb1 ?_ ?_<;>intro _)))
 all_goals first
  |(refine Xq h ?_;simp only [*];rfl)
  |(refine Xq h ?_;simp [*])
  |(rename_i h1;refine Xq h ?_;simp [h1])
  |(rename_i h1 h2;refine Xq h ?_;simp [h1,h2])
  |(rename_i h1 h2 h3;refine Xq h ?_;simp [h1,h2,h3])
  |(rename_i h1 h2 h3 h4;refine Xq h ?_;simp [h1,h2,h3,h4])
end
def wordF (t:Tk):Bool:= !(t.kind==16)&&(!(t.kind==17)&&rcntF t.kind t.text)
def wordsF (l:List Tk):List Tk:=l.filter wordF
def cutT (l:List Tk) (a b:Int):List Tk:=(l.take b.toNat).drop a.toNat
theorem Gn {l:List Tk} {a:Int}:cutT l a a=[]:=by
 unfold cutT
 exact List.drop_eq_nil_iff.2 (by rw [List.length_take];omega)
theorem cut_one {l:List Tk} {a:Int} {t:Tk} (h0:0≤a) (h:l[a.toNat]? =some t):cutT l a (a+1)=[t]:=by
 unfold cutT
 rw [show (a+1).toNat=a.toNat+1 by omega,List.take_add_one,h]
 have hl:=(List.getElem?_eq_some_iff.1 h).1
 rw [List.drop_append,List.drop_eq_nil_iff.2 (by rw [List.length_take];omega),List.length_take,Nat.min_eq_left (by omega),Nat.sub_self]
 rfl
theorem cut_add {l:List Tk} {a b c:Int} (h0:0≤a) (h1:a≤b) (h2:b≤c):cutT l a b++cutT l b c=cutT l a c:=by
 unfold cutT
 obtain ⟨x,rfl⟩:∃x:Nat,a=x:=⟨a.toNat,by omega⟩
 obtain ⟨y,rfl⟩:∃y:Nat,b=y:=⟨b.toNat,by omega⟩
 obtain ⟨z,rfl⟩:∃z:Nat,c=z:=⟨c.toNat,by omega⟩
 simp only [Int.toNat_natCast]
 have e:l.take y=(l.take z).take y:=by rw [List.take_take,Nat.min_eq_left (by omega)]
 rw [e]
 generalize l.take z=m
 have hx:m.drop x=(m.take y).drop x++m.drop y:=by
  have h3:m=m.take y++m.drop y:=(List.take_append_drop y m).symm
  by_cases hy:y≤m.length
  ·conv=>lhs;rw [h3]
   rw [List.drop_append,List.length_take,Nat.min_eq_left hy,show x - y=0 by omega,List.drop_zero]
  ·rw [List.drop_eq_nil_iff.2 (show m.length≤y by omega),List.append_nil,List.take_of_length_le (by omega)]
 exact hx.symm
structure Ps (s s':Sta) (m:List Tk):Prop where
 tk:s'.toks=s.toks
 le:s.pos≤s'.pos
 ok:s'=s∨(0≤s.pos∧s'.pos≤s.toks.length)
 eq:wordsF m=wordsF (cutT s.toks s.pos s'.pos)
theorem Ps.nil (s:Sta):Ps s s []:=⟨rfl,Int.le_refl _,.inl rfl,by rw [Gn]⟩
theorem Ps.trans {s s1 s2:Sta} {m n:List Tk} (h:Ps s s1 m) (k:Ps s1 s2 n):Ps s s2 (m++n):=by
 have ht:=k.tk.trans h.tk
 have hw:wordsF (m++n)=wordsF m++wordsF n:=by unfold wordsF;rw [List.filter_append]
 rcases h.ok with rfl|⟨a1,a2⟩
 ·refine ⟨ht,k.le,k.ok,?_⟩
  rw [hw,h.eq,Gn,k.eq];rfl
 ·have hle:=h.le
  rcases k.ok with rfl|⟨b1,b2⟩
  ·refine ⟨ht,hle,.inr ⟨a1,a2⟩,?_⟩
   rw [hw,h.eq,k.eq,Gn];exact List.append_nil _
  ·have kle:=k.le
   refine ⟨ht,by omega,.inr ⟨a1,by rw [←h.tk];exact b2⟩,?_⟩
   rw [hw,h.eq,k.eq,h.tk,←cut_add a1 hle kle]
   unfold wordsF;rw [List.filter_append]
theorem Ps.still {s s':Sta} {m:List Tk} (h0:0≤s.pos) (h1:s.pos≤s.toks.length) (ht:s'.toks=s.toks) (hp:s'.pos=s.pos) (hm:wordsF m=[]):Ps s s' m:=⟨ht,by omega,.inr ⟨h0,by omega⟩,by rw [hm,hp,Gn];rfl⟩
theorem Ps.step {s s':Sta} {m:List Tk} {t:Tk} (h0:0≤s.pos) (h:s.toks[s.pos.toNat]? =some t) (ht:s'.toks=s.toks) (hp:s'.pos=s.pos+1) (hm:wordsF m=wordsF [t]):Ps s s' m:=by
 have hl:=(List.getElem?_eq_some_iff.1 h).1
 exact ⟨ht,by omega,.inr ⟨h0,by omega⟩,by rw [hm,hp,cut_one h0 h]⟩
theorem Xav {t:Tk} (h:t.kind=16∨t.kind=17):wordsF [t]=[]:=by
 unfold wordsF wordF
 rcases h with h|h<;>simp [h]
def asW (t:Tk):List Tk:=if t.kind<18 then [t] else []
theorem XfP:∀(n:Nat) (s:Sta),(∀t ∈ s.toks,t.kind<18)→0≤s.pos→s.pos≤s.toks.length→(nextG n s).2.2=0→Ps s (nextG n s).2.1 (asW (nextG n s).1)
 |n,s,hN,h0,h1,h=>by
  have hend:∀{x:Tk×Sta×Int},x=endFT s→x.2.2=0→Ps s x.2.1 (asW x.1):=fun {x} e hx=>by
   subst e
   unfold endFT at hx ⊢
   split
   ·exact .still h0 h1 rfl rfl rfl
   ·rename_i e1
    rw [if_neg e1] at hx
    split
    ·exact .still h0 h1 rfl rfl rfl
    ·rename_i e2;rw [if_neg e2] at hx;cases hx
  cases n with
  |zero=>exact hend rfl h
  |succ n=>
   cases ht:s.toks[s.pos.toNat]? with
   |none=>exact hend (by rw [nextG,ht]) h
   |some t=>
    have e:nextG (n+1) s=if t.kind=16∧s.wait<2 then ((beginF t s).1,(beginF t s).2,0)
     else if t.kind=16∨t.kind=17 then if (lineF t s).1.kind=0 then nextG n (lineF t s).2 else ((lineF t s).1,(lineF t s).2,0) else braceF t s:=by rw [nextG,ht]
    have hl:=(List.getElem?_eq_some_iff.1 ht).1
    rw [e] at h ⊢
    clear e
    split
    ·rename_i hk
     unfold beginF
     split
     ·exact .still h0 h1 rfl rfl rfl
     ·split
      ·exact .step h0 ht rfl rfl (by rw [Xav (.inl hk.1)];rfl)
      ·exact .still h0 h1 rfl rfl rfl
    ·rename_i hk
     rw [if_neg hk] at h
     split
     ·rename_i hk2
      rw [if_pos hk2] at h
      split
      ·rename_i hz
       rw [if_pos hz] at h
       rw [ZP hz] at h ⊢
       have h3:Ps s {s with pos:=s.pos+1,wait:=0} []:=.step h0 ht rfl rfl (by rw [Xav hk2];rfl)
       exact h3.trans (XfP n {s with pos:=s.pos+1,wait:=0} hN (by show 0≤s.pos+1;omega) (by show s.pos+1≤(s.toks.length:Int);omega) h)
      ·rename_i hz
       unfold lineF at hz ⊢
       split
       ·exact .still h0 h1 rfl rfl rfl
       ·rename_i e1
        rw [if_neg e1] at hz
        split
        ·exact .step h0 ht rfl rfl (by rw [Xav hk2];rfl)
        ·rename_i e2;rw [if_neg e2] at hz;exact absurd rfl hz
     ·rename_i hk2
      rw [if_neg hk2] at h
      have ha:wordsF (asW t)=wordsF [t]:=by unfold asW;rw [if_pos (hN t (List.mem_of_getElem? ht))]
      unfold braceF at h ⊢
      split
      ·exact .step h0 ht rfl rfl ha
      ·rename_i e1
       rw [if_neg e1] at h
       split
       ·rename_i e2
        rw [if_pos e2] at h
        split
        ·rename_i e3;rw [if_pos e3] at h;cases h
        ·exact .step h0 ht rfl rfl ha
       ·exact .step h0 ht rfl rfl ha
theorem Xej {s:Sta} (h:mayF s=true):0≤s.pos∧s.pos≤s.toks.length:=by
 unfold mayF at h
 simp only [Bool.and_eq_true,decide_eq_true_eq] at h
 omega
theorem Xeo {s:Sta} (hN:∀t ∈ s.toks,t.kind<18) (h:(nextM s).2.2=0):Ps s (nextM s).2.1 (asW (nextM s).1):=by
 unfold nextM at h ⊢
 cases hm:mayF s with
 |false=>rw [hm] at h;cases h
 |true=>
  rw [hm,if_pos rfl] at h
  rw [if_pos rfl]
  obtain ⟨h0,h1⟩:=Xej hm
  exact XfP _ s hN h0 h1 h
theorem Xdj {t:Tk} (h:idleT t=true):wordsF (asW t)=[]:=by
 unfold asW
 split
 ·rename_i hk
  unfold idleT at h
  have h:t.kind=15∧(t.text=[123]∨t.text=[125]∨t.text=[59]):=by
   simp only [Bool.or_eq_true,Bool.and_eq_true,beq_iff_eq] at h
   rcases h with h|h
   ·omega
   ·exact ⟨h.1,by rcases h.2 with (h|h)|h<;>simp [h]⟩
  unfold wordsF wordF rcntF
  rcases h with ⟨h1,h2|h2|h2⟩<;>simp [h1,h2]
 ·rfl
theorem XcV {f:Bool} {l:List Nd}:leavesF (blockN f l)=leavesFs l:=by unfold blockN;rw [leavesF,if_neg (by decide)]
theorem Ps.words {s s':Sta} {m n:List Tk} (h:Ps s s' m) (e:wordsF n=wordsF m):Ps s s' n:=⟨h.tk,h.le,h.ok,e.trans h.eq⟩
theorem Rds.ps {l:List Nd} {s s':Sta} (h:Rds l s s'):(∀t ∈ s.toks,t.kind<18)→Ps s s' (leavesFs l):=by
 induction h with
 |nil s=>intro _;exact Ps.nil s
 |app _ _ h1 h2=>
   intro hN
   have k1:=h1 hN
   rw [Zt]
   exact k1.trans (h2 (by rw [k1.tk];exact hN))
 |tok h1 h2 h3=>
   intro hN
   rw [ZI,Xee]
   exact (Xeo hN h1).words (by unfold asW;rw [if_pos h2])
 |skip h1 h2=>intro hN;exact (Xeo hN h1).words (by rw [Xdj h2];rfl)
 |close h1=>
   intro hN
   rename_i s
   unfold closeF at h1 ⊢
   split
   ·rename_i hc
    obtain ⟨h0,h1⟩:=Xej hc.1
    exact .still h0 h1 rfl rfl rfl
   ·rename_i hc;rw [if_neg hc] at h1;cases h1
 |node h1 h2 h3 ih=>
   intro hN
   rw [ZI,Xef h2]
   exact ih hN
 |block h1 h2 h3 ih=>
   intro hN
   rename_i f l s s'
   have k1:=Xeo hN h1
   rw [ZI,XcV]
   have:=k1.trans (ih (by rw [k1.tk];exact hN))
   refine this.words ?_
   unfold wordsF
   rw [List.filter_append]
   have e:=Xdj h2
   unfold wordsF at e
   rw [e];rfl
theorem Path.mu {s t:Sta} {l:List Tk} (h:Path s l t):Proofs.YtkidoddkbhchkaaGreatDoor.mu t+l.length≤Proofs.YtkidoddkbhchkaaGreatDoor.mu s:=by
 induction h with
 |nil s=>exact Nat.le_refl _
 |cons h1 h2 _ ih=>rw [List.length_cons];omega
theorem Jf (l:List Tk):(encTs l).length=l.length:=by unfold encTs;rw [List.length_map]
theorem XgF {l:List Tk} {x:Tk} {own:Own} {st:St} {K:V→St→Prop} (h:own.good st) (hb:l.length+1≤1000000000)
 (k:∀own':Own,own'.good st→K (.slice 4 (encTs (l++[x])) own') (own'.st st ((l++[x]).length*4))):appendTo 4 40 (encTs l) own [x.cells] (own.st st (l.length*4)) K:=by
 have:=QW (sz:=4) (bytes:=40) (es:=encTs l) (new:=[x.cells]) (K:=K) h (by rw [Jf];show (l.length+1)*40≤_;omega) (by rw [Jf];show l.length+1<lim;simp only [lim];omega) rfl (fun own' ho=>by
  have:=k own' ho
  rw [Jf]
  have e:encTs l++[x.cells].map (·.map V.wk0)=encTs (l++[x]):=by unfold encTs;rw [List.map_append];rfl
  rw [e]
  rw [List.length_append] at this
  exact this)
 rw [Jf] at this
 exact this
def lvM (st:St) (bo:Nat) (l:List Tk) (own:Own):St:=own.st (st.setBox bo [.slice 4 (encTs l) own]) (l.length*4)
theorem Xet {own:Own} {st:St} {n b:Nat}:(own.st st n).box b=st.box b:=by cases own<;>rfl
theorem Xit {own:Own} {st:St} {b:Nat} {cs:List V} (hb:st.box b≠none) (h:own.good st):own.good (st.setBox b cs):=by
 cases own with
 |any=>exact h
 |full=>trivial
 |tok t=>
  have:b≠t:=fun e=>by subst e;exact hb h.1
  exact ⟨by rw [St.Xj this];exact h.1,h.2⟩
theorem Xl8 {own:Own} {st:St} {b:Nat} {cs:List V} (h:own.good (st.setBox b cs)):own.good st:=by
 cases own with
 |any=>exact h
 |full=>trivial
 |tok t=>exact (XO h).2
theorem Xmw {st:St} {bo:Nat} {l:List Tk} {own:Own}:(lvM st bo l own).box bo=some [.slice 4 (encTs l) own]:=by unfold lvM;rw [Xet,St.Xd]
theorem lvM_out {st:St} {bo b:Nat} {l:List Tk} {own:Own} (h:bo≠b):(lvM st bo l own).box b=st.box b:=by unfold lvM;rw [Xet,St.Xj h]
theorem lvM_set {st:St} {bo:Nat} {l l':List Tk} {own own':Own}:(own'.st (st.setBox bo [.slice 4 (encTs l) own]) (l'.length*4)).setBox bo [.slice 4 (encTs l') own']=lvM st bo l' own':=by
 rw [Xeu,St.set_set];rfl
theorem Xg9 {n:Nd} (h:¬n.kind=1):leavesF n=leavesFs n.kids:=by
 cases n with
 |mk a b c d e ks=>rw [leavesF,if_neg (show ¬a=1 from h)];rfl
theorem Xha {n:Nd} (h:n.kind=1):leavesF n=[⟨n.form,n.text,n.line,n.col⟩]:=by
 cases n with
 |mk a b c d e ks=>rw [leavesF,if_pos (show a=1 from h)];rfl
theorem VT {l:List Nd} {k:Nat} {x:Nd} (h:l[k]? =some x):leavesFs (l.take (k+1))=leavesFs (l.take k)++leavesF x:=by
 rw [List.take_add_one,h,Zt]
 show _++leavesFs [x]=_
 rw [ZI]
theorem XaG {l:List Nd} {k:Nat} {x:Nd} (h:l[k]? =some x):(leavesFs (l.take k)).length+(leavesF x).length≤(leavesFs l).length:=by
 have e:l=l.take (k+1)++l.drop (k+1):=(List.take_append_drop _ _).symm
 have:leavesFs l=leavesFs (l.take k)++leavesF x++leavesFs (l.drop (k+1)):=by
  conv=>lhs;rw [e]
  rw [Zt,VT h]
 rw [this]
 simp only [List.length_append]
 omega
section
variable {R:Res→St→Prop}
attribute [local irreducible] Go.Aw.appendTo
theorem XjT:∀(m:Nat) {n:Nd} {st:St} {bo bw:Nat} {l:List Tk} {own:Own} {R:Res→St→Prop},n.size≤m→bo≠bw→st.box bo≠none→st.box bw=some [.func 52 [] [.ptr bo 0,.ptr bw 0]]→own.good st→l.length+(leavesF n).length≤100000000→
 (∀own':Own,own'.good st→R (.ret (.tup [])) (lvM st bo (l++leavesF n) own'))→PC 52 [enc n,.ptr bo 0,.ptr bw 0] (lvM st bo l own) R:=by
 intro m
 induction m with
 |zero=>intro n st bo bw l own R hm;cases n;rw [Nd.size] at hm;omega
 |succ m ih=>
  intro n st bo bw l own R hm hne hb hw hg hl h
  refine Xa Xb [] Tryz.func52 rfl (by decide) ?_
  by_cases hk:n.kind=1
  ·rw [Xha hk] at h hl
   have hn:l.length+1≤1000000000:=by simp only [List.length_singleton] at hl;omega
   repeat' ((conv=>whnf);first|(with_reducible first|refine Yb0 ?_|(refine Yb1 ?_ ?_<;>intro _)|refine Wl (fun _=>?_)|refine Wm (by assumption) (by omega) ?_|refine Wn (by omega) (by omega) (fun _ _ _=>?_)|refine Wq (by omega) (by omega) ?_|refine Wz (fun _=>?_)|refine WA (fun _=>?_)|refine WB (by assumption) (by omega) ?_|refine WC (by omega) (by omega) (fun _ _=>?_)|refine WD (by omega) (by omega) (fun _ _=>?_))|refine Xm Xmw ?_|refine XgF (st:=st.setBox bo [.slice 4 (encTs l) own]) (l:=l) (x:=⟨n.form,n.text,n.line,n.col⟩) (Xit hb hg) hn (fun own1 ho1=>?_)|refine Xm (by rw [Xet,St.Xd]) ?_)
   all_goals exact finx rfl lvM_set (h own1 (Xl8 ho1))
  ·rw [Xg9 hk] at h hl
   repeat' ((conv=>whnf);first|(with_reducible first|refine Yb0 ?_|(refine Yb1 ?_ ?_<;>intro _)|refine Wl (fun _=>?_)|refine Wm (by assumption) (by omega) ?_|refine Wn (by omega) (by omega) (fun _ _ _=>?_)|refine Wq (by omega) (by omega) ?_|refine Wz (fun _=>?_)|refine WA (fun _=>?_)|refine WB (by assumption) (by omega) ?_|refine WC (by omega) (by omega) (fun _ _=>?_)|refine WD (by omega) (by omega) (fun _ _=>?_)))
   refine UZ (α:=Nat×Own) (fun x=>[(24,.int .i64 (x.1:Nat))]) [22,23,1,2] (fun x=>[]) [] (fun x=>lvM st bo (l++leavesFs (n.kids.take x.1)) x.2) (fun x=>x.2.good st∧x.1≤n.kids.length) (fun x=>n.kids.length - x.1) (0,own) ⟨hg,Nat.zero_le _⟩ Yl
    (by show St.le (lvM st bo (l++leavesFs (n.kids.take 0)) own) _;rw [List.take_zero,leavesFs,List.append_nil];exact St.le_refl _) ?_
   rintro ⟨k,own1⟩ ⟨j1,j2⟩
   dsimp only at j1 j2
   by_cases hlt:k<n.kids.length
   ·obtain ⟨x,hx⟩:∃x,n.kids[(k:Int).toNat]? =some x:=⟨_,List.getElem?_eq_getElem hlt⟩
    have hx':n.kids[k]? =some x:=hx
    have hxs:=Zn (List.mem_of_getElem? hx')
    have hle:=XaG hx'
    have hll:∀k x,n.kids[k]? =some x→(l++leavesFs (n.kids.take k)).length+(leavesF x).length≤100000000:=fun k x e=>by have:=XaG e;rw [List.length_append];omega
    have hW:(lvM st bo (l++leavesFs (n.kids.take k)) own1).box bw=some [.func 52 [] [.ptr bo 0,.ptr bw 0]]:=by rw [lvM_out hne];exact hw
    repeat' ((conv=>whnf);first|(with_reducible first|refine Yb0 ?_|(refine Yb1 ?_ ?_<;>intro _)|refine Wl (fun _=>?_)|refine Wm (by assumption) (by omega) ?_|refine Wn (by omega) (by omega) (fun _ _ _=>?_)|refine Wq (by omega) (by omega) ?_|refine Wz (fun _=>?_)|refine WA (fun _=>?_)|refine WB (by assumption) (by omega) ?_|refine WC (by omega) (by omega) (fun _ _=>?_)|refine WD (by omega) (by omega) (fun _ _=>?_))|refine Xm hW ?_|refine ih (n:=x) (l:=l++leavesFs (n.kids.take k)) (by omega) hne hb hw j1 (hll k x hx') (fun own2 ho2=>?_)|refine Wq (a:=(k:Int)+1) (by omega) (by omega) ?_)
    all_goals conv=>whnf
    all_goals exact ⟨(k+1,own2),⟨ho2,hlt⟩,Nat.sub_lt_sub_left hlt (Nat.lt_succ_self k),Yl,by
     show St.le (lvM st bo (l++leavesFs (n.kids.take (k+1))) own2) _
     rw [VT hx',←List.append_assoc]
     exact St.le_refl _⟩
   ·have hk2:k=n.kids.length:=by omega
    repeat' ((conv=>whnf);first|(with_reducible first|refine Yb0 ?_|(refine Yb1 ?_ ?_<;>intro _)|refine Wl (fun _=>?_)|refine Wm (by assumption) (by omega) ?_|refine Wn (by omega) (by omega) (fun _ _ _=>?_)|refine Wq (by omega) (by omega) ?_|refine Wz (fun _=>?_)|refine WA (fun _=>?_)|refine WB (by assumption) (by omega) ?_|refine WC (by omega) (by omega) (fun _ _=>?_)|refine WD (by omega) (by omega) (fun _ _=>?_)))
    all_goals exact finx rfl (by rw [hk2,List.take_length]) (h own1 j1)
theorem Xl5 {l:List Tk} {own:Own}:Res.ret (.slice 4 (encTs l) .any)=(Res.ret (.slice 4 (encTs l) own)).wk:=rfl
theorem XjU {n:Nd} {st:St} {bo bw:Nat} {R:Res→St→Prop} (hne:bo≠bw) (hb:st.box bo=some [.slice 4 [] .full]) (hw:st.box bw=some [.func 52 [] [.ptr bo 0,.ptr bw 0]]) (hl:(leavesF n).length≤100000000)
 (h:∀own':Own,own'.good st→R (.ret (.tup [])) (lvM st bo (leavesF n) own')):PC 52 [enc n,.ptr bo 0,.ptr bw 0] st R:=by
 have:=XjT n.size (n:=n) (st:=st) (bo:=bo) (bw:=bw) (l:=[]) (own:=.full) (R:=R) (Nat.le_refl _) hne (by rw [hb];exact fun e=>by cases e) hw trivial (by show 0+_≤_;omega) h
 rw [show lvM st bo [] .full=st from St.set_self hb] at this
 exact this
theorem Xmg {n:Nd} {st:St} (hl:(leavesF n).length≤100000000) (h:R (.ret (.slice 4 (encTs (leavesF n)) .any)) st):PC 16 [enc n] st R:=by
 refine Xa Xb [3,4] Tryz.func16 rfl (by decide) ?_
 repeat' ((conv=>whnf);first|(with_reducible first|refine Yb0 ?_|(refine Yb1 ?_ ?_<;>intro _)|refine Wx (fun _=>?_) ?_|refine Wy (fun _=>?_) ?_)|refine Xen (fun b f=>?_)|refine Xm (St.Xd ..) ?_)
 rename_i b1 f1
 have hne:b1≠b:=(XO f).1
 have hfb:st.fresh b:=(XO (XO f).2).2
 repeat' ((conv=>whnf);first|(with_reducible first|refine Yb0 ?_|(refine Yb1 ?_ ?_<;>intro _)|refine Wx (fun _=>?_) ?_|refine Wy (fun _=>?_) ?_)|refine XjU hne (by rw [St.Xj hne.symm,St.Xj hne.symm,St.Xd]) (St.Xd ..) hl (fun own1 ho1=>?_)|refine Xm Xmw ?_)
 all_goals refine finl ?_ Xl5 h
 all_goals exact St.le_trans (St.Xg (St.Xg (St.Xg (St.Xg (St.Xg (St.le_refl st) f1.1 _) f1.1 _) hfb.1 _) hfb.1 _) f1.1 _) (Own.XR (Xit (by rw [St.Xj hne.symm,St.Xj hne.symm,St.Xd];exact fun e=>by cases e) ho1))
end
end Go.Proofs.YtkidoddkbhchkaaGreatDoor
namespace Go.Aw
theorem len_nil {α:Type} {K:Nat→Prop} (k:0<lim→K 0):∀m,m=([]:List α).length→m<lim→K m:=fun m hm h=>by subst hm;exact k h
end Go.Aw
namespace Go.Proofs.YtkidoddkbhchkaaGreatDoor
open Go Go.Aw
section
variable {st:St} {R:Res→St→Prop}
attribute [local irreducible] Go.Aw.appendTo
theorem Xfm {o1 o2:Own} {f:V} (h:R (.ret (.bool true)) st):PC 53 [.slice 6 [] o1,.slice 6 [] o2,f] st R:=by
 refine Xa Xb [] Tryz.func53 rfl (by decide) ?_
 repeat' ((conv=>whnf);first|refine len_nil (fun _=>?_)|(with_reducible first|refine Yb0 ?_|(refine Yb1 ?_ ?_<;>intro _)|refine Wl (fun _=>?_)|refine Wm (by assumption) (by omega) ?_|refine Wn (by omega) (by omega) (fun _ _ _=>?_)|refine Wq (by omega) (by omega) ?_|refine Wz (fun _=>?_)|refine WA (fun _=>?_)|refine WB (by assumption) (by omega) ?_|refine WC (by omega) (by omega) (fun _ _=>?_)|refine WD (by omega) (by omega) (fun _ _=>?_)))
 refine Xah 17 [15,16] 0 (fun k=>k=0) rfl Yl ?_
 intro k hk
 subst hk
 repeat' ((conv=>whnf);first|(with_reducible first|refine Yb0 ?_|(refine Yb1 ?_ ?_<;>intro _)|refine Wl (fun _=>?_)|refine Wm (by assumption) (by omega) ?_|refine Wn (by omega) (by omega) (fun _ _ _=>?_)|refine Wq (by omega) (by omega) ?_|refine Wz (fun _=>?_)|refine WA (fun _=>?_)|refine WB (by assumption) (by omega) ?_|refine WC (by omega) (by omega) (fun _ _=>?_)|refine WD (by omega) (by omega) (fun _ _=>?_)))
 all_goals exact fin h rfl
theorem Xkl (h:R (.ret (.bool true)) st):PC 17 [enc nd0,enc nd0] st R:=by
 refine Xa Xb [] Tryz.func17 rfl (by decide) ?_
 repeat' ((conv=>whnf);first|with_reducible refine Wt rfl ?_|with_reducible refine Wi ?_|(with_reducible first|refine Yb0 ?_|(refine Yb1 ?_ ?_<;>intro _))|refine Xfm ?_)
 all_goals exact fin h rfl
theorem Xf9 {n:Nd} (hn:n=nd0) (h:R (.ret (.bool true)) st):PC 17 [enc n,.agg zeroN] st R:=by
 subst hn
 exact Vv (args':=[enc nd0,enc nd0]) rfl (Xkl h)
end
theorem XhC {l:List Tk} {a b:Int} {K:List (List V)→Prop} (h0:0≤a) (h1:a≤b) (h2:b≤l.length) (k:K (encTs (cutT l a b))):
 (0≤a∧a≤b∧b≤(encTs l).length)∧∀es',es'=(((encTs l).take b.toNat).drop a.toNat)→K es':=by
 refine ⟨⟨h0,h1,by rw [Jc];exact h2⟩,fun es' e=>?_⟩
 have:((encTs l).take b.toNat).drop a.toNat=encTs (cutT l a b):=by simp [encTs,cutT,List.map_drop,List.map_take]
 rw [this] at e;subst e;exact k
theorem XkM {l:List Tk} {k:Nat} {t:Tk} (h:l[k]? =some t):wordsF (l.take (k+1))=wordsF (l.take k)++(if wordF t=true then [t] else []):=by
 rw [List.take_add_one,h]
 unfold wordsF
 rw [List.filter_append]
 congr 1
 simp only [Option.toList_some,List.filter_cons,List.filter_nil]
theorem XnC {l:List Tk} {k:Nat}:(wordsF (l.take k)).length≤l.length:=by
 unfold wordsF
 exact Nat.le_trans (List.length_filter_le _ _) (by rw [List.length_take];omega)
section
variable {st:St} {R:Res→St→Prop}
attribute [local irreducible] Go.Aw.appendTo
theorem Xfp {l:List Tk} {own:Own} (hl:l.length≤100000000) (h:R (.ret (.slice 4 (encTs (wordsF l)) .any)) st):PC 38 [.slice 4 (encTs l) own] st R:=by
 refine Xa Xb [] Tryz.func38 rfl (by decide) ?_
 repeat' ((conv=>whnf);first|(with_reducible first|refine Yb0 ?_|(refine Yb1 ?_ ?_<;>intro _)|refine Wl (fun _=>?_)|refine Wm (by assumption) (by omega) ?_|refine Wn (by omega) (by omega) (fun _ _ _=>?_)|refine Wq (by omega) (by omega) ?_|refine Wx (fun _=>?_) ?_|refine Wy (fun _=>?_) ?_|refine Wz (fun _=>?_)|refine WA (fun _=>?_)|refine WB (by assumption) (by omega) ?_|refine WC (by omega) (by omega) (fun _ _=>?_)|refine WD (by omega) (by omega) (fun _ _=>?_)))
 refine UZ (α:=Nat×Own) (fun x=>[(3,.slice 4 (encTs (wordsF (l.take x.1))) x.2),(4,.int .i64 (x.1:Nat))]) [0] (fun x=>[]) [] (fun x=>x.2.st st ((wordsF (l.take x.1)).length*4)) (fun x=>x.2.good st∧x.1≤l.length) (fun x=>l.length - x.1) (0,.full) ⟨trivial,Nat.zero_le _⟩ Yl (by rw [List.take_zero];exact St.le_refl _) ?_
 rintro ⟨k,w⟩ ⟨j1,j2⟩
 dsimp only at j1 j2
 by_cases hlt:k<l.length
 ·obtain ⟨t,ht⟩:∃t,l[(k:Int).toNat]? =some t:=⟨_,List.getElem?_eq_getElem hlt⟩
  have hs:=XkM (show l[k]? =some t from ht)
  have hn:(wordsF (l.take k)).length+1≤1000000000:=by have:=XnC (l:=l) (k:=k);omega
  have hcase:(wordF t=true∧¬t.kind=16∧¬t.kind=17∧rcntF t.kind t.text=true)∨(wordF t=false∧(t.kind=16∨(¬t.kind=16∧t.kind=17)∨(¬t.kind=16∧¬t.kind=17∧rcntF t.kind t.text=false))):=by
   unfold wordF
   by_cases h1:t.kind=16
   ·right;simp [h1]
   by_cases h2:t.kind=17
   ·right;simp [h2]
   cases h3:rcntF t.kind t.text<;>simp [h1,h2]
  rcases hcase with ⟨hw,n1,n2,n3⟩|⟨hw,n1|⟨n1,n2⟩|⟨n1,n2,n3⟩⟩
  ·have hcn:∀{st:St} {R:Res→St→Prop},R (.ret (.bool true)) st→PC 81 [.agg [.int .i64 t.kind,.str t.text,.int .i64 t.line,.int .i64 t.col]] st R:=fun h=>Xdv (by rw [n3];exact h)
   rw [hw,if_pos rfl] at hs
   repeat' ((conv=>whnf);first|(with_reducible first|refine Yb0 ?_|(refine Yb1 ?_ ?_<;>intro _)|refine Wl (fun _=>?_)|refine Wm (by assumption) (by omega) ?_|refine Wn (by omega) (by omega) (fun _ _ _=>?_)|refine Wq (by omega) (by omega) ?_|refine Wx (fun _=>?_) ?_|refine Wy (fun _=>?_) ?_|refine Wz (fun _=>?_)|refine WA (fun _=>?_)|refine WB (by assumption) (by omega) ?_|refine WC (by omega) (by omega) (fun _ _=>?_)|refine WD (by omega) (by omega) (fun _ _=>?_))|refine hcn ?_|refine XgF (l:=wordsF (l.take k)) (x:=t) j1 hn (fun own1 ho1=>?_)|refine Wq (a:=(k:Int)+1) (by omega) (by omega) ?_)
   all_goals conv=>whnf
   all_goals exact ⟨(k+1,own1),⟨ho1,hlt⟩,Nat.sub_lt_sub_left hlt (Nat.lt_succ_self k),by dsimp only;rw [hs];exact Yl,by dsimp only;rw [hs];exact St.le_refl _⟩
  all_goals rw [hw,if_neg (by decide),List.append_nil] at hs
  ·skip
   repeat' ((conv=>whnf);first|(with_reducible first|refine Yb0 ?_|(refine Yb1 ?_ ?_<;>intro _)|refine Wl (fun _=>?_)|refine Wm (by assumption) (by omega) ?_|refine Wn (by omega) (by omega) (fun _ _ _=>?_)|refine Wq (by omega) (by omega) ?_|refine Wx (fun _=>?_) ?_|refine Wy (fun _=>?_) ?_|refine Wz (fun _=>?_)|refine WA (fun _=>?_)|refine WB (by assumption) (by omega) ?_|refine WC (by omega) (by omega) (fun _ _=>?_)|refine WD (by omega) (by omega) (fun _ _=>?_))|refine Wq (a:=(k:Int)+1) (by omega) (by omega) ?_)
   all_goals conv=>whnf
   all_goals exact ⟨(k+1,w),⟨j1,hlt⟩,Nat.sub_lt_sub_left hlt (Nat.lt_succ_self k),by dsimp only;rw [hs];exact Yl,by dsimp only;rw [hs];exact St.le_refl _⟩
  ·skip
   repeat' ((conv=>whnf);first|(with_reducible first|refine Yb0 ?_|(refine Yb1 ?_ ?_<;>intro _)|refine Wl (fun _=>?_)|refine Wm (by assumption) (by omega) ?_|refine Wn (by omega) (by omega) (fun _ _ _=>?_)|refine Wq (by omega) (by omega) ?_|refine Wx (fun _=>?_) ?_|refine Wy (fun _=>?_) ?_|refine Wz (fun _=>?_)|refine WA (fun _=>?_)|refine WB (by assumption) (by omega) ?_|refine WC (by omega) (by omega) (fun _ _=>?_)|refine WD (by omega) (by omega) (fun _ _=>?_))|refine Wq (a:=(k:Int)+1) (by omega) (by omega) ?_)
   all_goals conv=>whnf
   all_goals exact ⟨(k+1,w),⟨j1,hlt⟩,Nat.sub_lt_sub_left hlt (Nat.lt_succ_self k),by dsimp only;rw [hs];exact Yl,by dsimp only;rw [hs];exact St.le_refl _⟩
  ·have hcn:∀{st:St} {R:Res→St→Prop},R (.ret (.bool false)) st→PC 81 [.agg [.int .i64 t.kind,.str t.text,.int .i64 t.line,.int .i64 t.col]] st R:=fun h=>Xdv (by rw [n3];exact h)
   repeat' ((conv=>whnf);first|(with_reducible first|refine Yb0 ?_|(refine Yb1 ?_ ?_<;>intro _)|refine Wl (fun _=>?_)|refine Wm (by assumption) (by omega) ?_|refine Wn (by omega) (by omega) (fun _ _ _=>?_)|refine Wq (by omega) (by omega) ?_|refine Wx (fun _=>?_) ?_|refine Wy (fun _=>?_) ?_|refine Wz (fun _=>?_)|refine WA (fun _=>?_)|refine WB (by assumption) (by omega) ?_|refine WC (by omega) (by omega) (fun _ _=>?_)|refine WD (by omega) (by omega) (fun _ _=>?_))|refine hcn ?_|refine Wq (a:=(k:Int)+1) (by omega) (by omega) ?_)
   all_goals conv=>whnf
   all_goals exact ⟨(k+1,w),⟨j1,hlt⟩,Nat.sub_lt_sub_left hlt (Nat.lt_succ_self k),by dsimp only;rw [hs];exact Yl,by dsimp only;rw [hs];exact St.le_refl _⟩
 ·have hk2:k=l.length:=by omega
  subst hk2
  rw [List.take_length]
  repeat' ((conv=>whnf);first|(with_reducible first|refine Yb0 ?_|(refine Yb1 ?_ ?_<;>intro _)|refine Wl (fun _=>?_)|refine Wm (by assumption) (by omega) ?_|refine Wn (by omega) (by omega) (fun _ _ _=>?_)|refine Wq (by omega) (by omega) ?_|refine Wx (fun _=>?_) ?_|refine Wy (fun _=>?_) ?_|refine Wz (fun _=>?_)|refine WA (fun _=>?_)|refine WB (by assumption) (by omega) ?_|refine WC (by omega) (by omega) (fun _ _=>?_)|refine WD (by omega) (by omega) (fun _ _=>?_)))
  all_goals exact finl (Own.XR j1) rfl h
mutual
theorem Gy:∀n:Nd,(leavesF n).length≤n.size
 | .mk k f t l c ks=>by
   have:=VR ks
   rw [leavesF,Nd.size]
   split
   ·rw [List.length_singleton];omega
   ·omega
theorem VR:∀l:List Nd,(leavesFs l).length≤sizes l
 |[]=>Nat.le_refl _
 |n::r=>by
  have:=Gy n
  have:=VR r
  rw [leavesFs,sizes,List.length_append];omega
end
theorem Xju (d:Nat):Dv (declsD d):=Gs (XbL (UN _) (XbN _))
theorem Xjk {s s':Sta} {deep e:Int} {n:Nd} {A:Rd Nd} (h:catchR s deep (rsOf A s)=(n,s',e)) (he:¬e=0):n=nd0:=by
 unfold catchR at h
 split at h
 ·cases h;rfl
 ·unfold rsOf at h
  cases hA:A.run s with
  |inl p=>rw [hA] at h;cases h;rfl
  |inr p=>rw [hA] at h;cases h;exact absurd rfl he
theorem Xc7 {s s':Sta} {deep:Int} {n:Nd} {A:Rd Nd} (h:catchR s deep (rsOf A s)=(n,s',0)):A.run s=.inr (n,s'):=by
 unfold catchR at h
 split at h
 ·cases h
 ·unfold rsOf at h
  cases hA:A.run s with
  |inl p=>rw [hA] at h;obtain ⟨⟨x,hx⟩,t⟩:=p;cases h;exact absurd rfl hx
  |inr p=>rw [hA] at h;obtain ⟨a,b⟩:=p;cases h;rfl
theorem Xjp {s s':Sta} {n:Nd} {d:Nat} (h:(declsD d).run s=.inr (n,s')):0≤s.pos∧s.pos≤s.toks.length:=by
 apply Xej
 cases hm:mayF s with
 |true=>rfl
 |false=>
  have hn:nextM s=(tk0,sta0,1):=by unfold nextM;rw [hm];rfl
  have h:(if ((nextM s).1.kind==18)=true then Rd.seq skipR fun _=>.seq (.loop (blockB declsF (declD d) false) []) fun l=>.ret (blockN false l)
   else Rd.seq (wantR 15 [123]) fun _=>.seq (.loop (blockB declsF (declD d) true) []) fun l=>.ret (blockN true l):Rd Nd).run s=.inr (n,s'):=h
  rw [hn,if_neg (by decide)] at h
  obtain ⟨a,s1,h1,_⟩:=XW h
  have h1:(if isF s 15 [123]=true then takeR else badR).run s=.inr (a,s1):=h1
  rw [show isF s 15 [123]=false by unfold isF;rw [hn];rfl,if_neg (by decide)] at h1
  cases h1
theorem XdY {s:Sta} {deep:Int} (h:∀st',R (.ret (.bool true)) st'):PC 11 [encS s,.int .i64 deep] st R:=by
 refine Xa Xb [] Tryz.func11 rfl (by decide) ?_
 by_cases hs:s.toks.length≤1000∧s.opn.length≤1000
 ·have hm:=emu hs
  have hm4:mu s≤5100:=by unfold mu;omega
  have hv:true=(decide (s.toks.length≤1000)&&decide (s.opn.length≤1000)):=by simp [hs]
  repeat' ((conv=>whnf);first|(with_reducible first|exact Wa|exact Wb|exact Wc|refine Wd (by kernel_rfl) ?_|refine We ?_ ?_ ?_|refine W8 (by decide +kernel) ?_ ?_ ?_|refine W0 (by decide +kernel) ?_ ?_ ?_|refine W9 ?_ ?_ ?_|refine Yb0 ?_|(refine Yb1 ?_ ?_<;>intro _)|refine Wl (fun _=>?_)|refine Wm (by assumption) (by omega) ?_|refine Wn (by omega) (by omega) (fun _ _ _=>?_)|refine Wo (by omega) (by omega) ?_|refine Wp (by omega) (by omega) (by omega) ?_|refine Wq (by omega) (by omega) ?_|refine Wz (fun _=>?_)|refine WA (fun _=>?_)|refine WB (by assumption) (by omega) ?_|refine WC (by omega) (by omega) (fun _ _=>?_)|refine WD (by omega) (by omega) (fun _ _=>?_)|refine WE (by omega) (by omega) (by omega) ?_)|refine JV hv ?_|refine Jl (fun st1 hle1=>?_)|with_reducible refine WF ?_)
  refine UZ (α:=Nat) (fun k=>[(6,.int .i64 (k:Nat))]) [1,2,4,5] (fun k=>[]) [0] (fun _=>st1) (fun k=>k≤s.toks.length∧∀t ∈ s.toks.take k,t.kind<18) (fun k=>s.toks.length - k) 0 ⟨Nat.zero_le _,by rw [List.take_zero];intro t ht;cases ht⟩ Yl (St.le_refl _) ?_
  rintro k ⟨j1,j2⟩
  by_cases hlt:k<s.toks.length
  ·obtain ⟨t,ht⟩:∃t,s.toks[(k:Int).toNat]? =some t:=⟨_,List.getElem?_eq_getElem hlt⟩
   by_cases hk:t.kind<18
   ·have hge:¬t.kind≥18:=by omega
    have j3:∀u ∈ s.toks.take (k+1),u.kind<18:=by
     rw [List.take_add_one,show s.toks[k]? =some t from ht]
     intro u hu
     rcases List.mem_append.1 hu with hu|hu
     ·exact j2 u hu
     ·simp only [Option.toList_some,List.mem_singleton] at hu;subst hu;exact hk
    repeat' ((conv=>whnf);first|(with_reducible first|exact Wa|exact Wb|exact Wc|refine Wd (by kernel_rfl) ?_|refine We ?_ ?_ ?_|refine W8 (by decide +kernel) ?_ ?_ ?_|refine W0 (by decide +kernel) ?_ ?_ ?_|refine W9 ?_ ?_ ?_|refine Yb0 ?_|(refine Yb1 ?_ ?_<;>intro _)|refine Wl (fun _=>?_)|refine Wm (by assumption) (by omega) ?_|refine Wn (by omega) (by omega) (fun _ _ _=>?_)|refine Wo (by omega) (by omega) ?_|refine Wp (by omega) (by omega) (by omega) ?_|refine Wq (by omega) (by omega) ?_|refine Wz (fun _=>?_)|refine WA (fun _=>?_)|refine WB (by assumption) (by omega) ?_|refine WC (by omega) (by omega) (fun _ _=>?_)|refine WD (by omega) (by omega) (fun _ _=>?_)|refine WE (by omega) (by omega) (by omega) ?_)|refine Wq (a:=(k:Int)+1) (by omega) (by omega) ?_|with_reducible refine WF ?_)
    all_goals conv=>whnf
    all_goals exact ⟨k+1,⟨hlt,j3⟩,Nat.sub_lt_sub_left hlt (Nat.lt_succ_self k),Yl,St.le_refl _⟩
   ·have hge:t.kind≥18:=by omega
    repeat' ((conv=>whnf);first|(with_reducible first|exact Wa|exact Wb|exact Wc|refine Wd (by kernel_rfl) ?_|refine We ?_ ?_ ?_|refine W8 (by decide +kernel) ?_ ?_ ?_|refine W0 (by decide +kernel) ?_ ?_ ?_|refine W9 ?_ ?_ ?_|refine Yb0 ?_|(refine Yb1 ?_ ?_<;>intro _)|refine Wl (fun _=>?_)|refine Wm (by assumption) (by omega) ?_|refine Wn (by omega) (by omega) (fun _ _ _=>?_)|refine Wo (by omega) (by omega) ?_|refine Wp (by omega) (by omega) (by omega) ?_|refine Wq (by omega) (by omega) ?_|refine Wz (fun _=>?_)|refine WA (fun _=>?_)|refine WB (by assumption) (by omega) ?_|refine WC (by omega) (by omega) (fun _ _=>?_)|refine WD (by omega) (by omega) (fun _ _=>?_)|refine WE (by omega) (by omega) (by omega) ?_)|with_reducible refine WF ?_)
    all_goals exact fin (h _) rfl
  ·have hk2:k=s.toks.length:=by omega
   have hN:∀t ∈ s.toks,t.kind<18:=by
    rw [hk2,List.take_length] at j2;exact j2
   generalize hq:catchR s deep (rsOf (declsD (depF deep)) s)=q
   obtain ⟨n,t,e⟩:=q
   by_cases he:e=0
   ·subst he
    have hr:=Xc7 hq
    have hR:=(Xju _).at hr
    have hp:=hR.ps hN
    rw [ZI] at hp
    have hpos:=Xjp hr
    have hpe:t.pos≤s.toks.length:=by
     rcases hp.ok with e|e
     ·rw [e];exact hpos.2
     ·exact e.2
    have hle:=hp.le
    have hl:(leavesF n).length≤100000000:=by
     have:=hR.size1
     have:=Gy n
     omega
    have hc:(cutT s.toks s.pos t.pos).length≤100000000:=by unfold cutT;rw [List.length_drop,List.length_take];omega
    have e1:¬s.pos<0:=by omega
    have e2:¬t.pos<s.pos:=by omega
    have e3:¬t.pos>(s.toks.length:Int):=by omega
    have hw2:∀{st:St} {R:Res→St→Prop} {own:Own},R (.ret (.slice 4 (encTs (wordsF (leavesF n))) .any)) st→PC 38 [.slice 4 (encTs (cutT s.toks s.pos t.pos)) own] st R:=fun h=>Xfp hc (by rw [←hp.eq];exact h)
    repeat' ((conv=>whnf);first|(with_reducible first|exact Wa|exact Wb|exact Wc|refine Wd (by kernel_rfl) ?_|refine We ?_ ?_ ?_|refine W8 (by decide +kernel) ?_ ?_ ?_|refine W0 (by decide +kernel) ?_ ?_ ?_|refine W9 ?_ ?_ ?_|refine Yb0 ?_|(refine Yb1 ?_ ?_<;>intro _)|refine Wl (fun _=>?_)|refine Wm (by assumption) (by omega) ?_|refine Wn (by omega) (by omega) (fun _ _ _=>?_)|refine Wo (by omega) (by omega) ?_|refine Wp (by omega) (by omega) (by omega) ?_|refine Wq (by omega) (by omega) ?_|refine Wz (fun _=>?_)|refine WA (fun _=>?_)|refine WB (by assumption) (by omega) ?_|refine WC (by omega) (by omega) (fun _ _=>?_)|refine WD (by omega) (by omega) (fun _ _=>?_)|refine WE (by omega) (by omega) (by omega) ?_)|refine Uj hm hq ?_|refine Xmg hl ?_|refine Xfp hl ?_|refine XhC (by omega) (by omega) (by omega) ?_|refine hw2 ?_|refine Xhx ?_|refine Xk [(0,true),(1,true),(2,true),(5,true),(6,true),(7,true),(8,true),(9,true),(10,true),(11,true),(3,false),(4,false),(12,false),(13,false),(14,true),(15,true)] [] (by decide +kernel) ?_|with_reducible refine WF ?_)
    all_goals exact fin (h _) rfl
   ·have hn:n=nd0:=Xjk hq he
    repeat' ((conv=>whnf);first|(with_reducible first|exact Wa|exact Wb|exact Wc|refine Wd (by kernel_rfl) ?_|refine We ?_ ?_ ?_|refine W8 (by decide +kernel) ?_ ?_ ?_|refine W0 (by decide +kernel) ?_ ?_ ?_|refine W9 ?_ ?_ ?_|refine Yb0 ?_|(refine Yb1 ?_ ?_<;>intro _)|refine Wl (fun _=>?_)|refine Wm (by assumption) (by omega) ?_|refine Wn (by omega) (by omega) (fun _ _ _=>?_)|refine Wo (by omega) (by omega) ?_|refine Wp (by omega) (by omega) (by omega) ?_|refine Wq (by omega) (by omega) ?_|refine Wz (fun _=>?_)|refine WA (fun _=>?_)|refine WB (by assumption) (by omega) ?_|refine WC (by omega) (by omega) (fun _ _=>?_)|refine WD (by omega) (by omega) (fun _ _=>?_)|refine WE (by omega) (by omega) (by omega) ?_)|refine Uj hm hq ?_|refine Xf9 hn ?_|with_reducible refine WF ?_)
    all_goals exact fin (h _) rfl
 ·have hv:false=(decide (s.toks.length≤1000)&&decide (s.opn.length≤1000)):=by
   symm;simp only [Bool.and_eq_false_iff,decide_eq_false_iff_not];omega
  repeat' ((conv=>whnf);first|(with_reducible first|exact Wa|exact Wb|exact Wc|refine Wd (by kernel_rfl) ?_|refine We ?_ ?_ ?_|refine W8 (by decide +kernel) ?_ ?_ ?_|refine W0 (by decide +kernel) ?_ ?_ ?_|refine W9 ?_ ?_ ?_|refine Yb0 ?_|(refine Yb1 ?_ ?_<;>intro _)|refine Wl (fun _=>?_)|refine Wm (by assumption) (by omega) ?_|refine Wn (by omega) (by omega) (fun _ _ _=>?_)|refine Wo (by omega) (by omega) ?_|refine Wp (by omega) (by omega) (by omega) ?_|refine Wq (by omega) (by omega) ?_|refine Wz (fun _=>?_)|refine WA (fun _=>?_)|refine WB (by assumption) (by omega) ?_|refine WC (by omega) (by omega) (fun _ _=>?_)|refine WD (by omega) (by omega) (fun _ _=>?_)|refine WE (by omega) (by omega) (by omega) ?_)|refine JV hv ?_|refine Jl (fun st1 hle1=>?_)|with_reducible refine WF ?_)
  all_goals exact fin (h _) rfl
end
end Go.Proofs.YtkidoddkbhchkaaGreatDoor
