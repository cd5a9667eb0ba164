/-
  Parts of a proof: lemmas that the last text uses.
-/
import Derived.Tactics
import Derived.Laws.Cells
import Derived.Shelf.Unicode.DecodeSlow
import Derived.Lib.Space
import Derived.Laws.CopyRow
import Derived.ChangeKeysEq
import Derived.Laws.StructEq
import Derived.Laws.Append
import Derived.Laws.AppendOwn
import Derived.Laws.Strings
set_option linter.unusedVariables false
set_option linter.unusedSimpArgs false
set_option maxHeartbeats 16000000
theorem AC {P:Prop} (h:P:=by first|exact Nat.le_of_ble_eq_true rfl|omega|(simp only [List.length_append,List.length_cons,List.length_nil]<;>omega)):P:=h
theorem Do {P:Prop} (h:P:=by first|omega|(dsimp only<;>omega)|(simp only [List.length_append,List.length_cons,List.length_nil]<;>omega)|(dsimp only<;>simp only [List.length_append,List.length_cons,List.length_nil]<;>omega)):P:=h
theorem EQ {P:Prop} (h:P:=by first|exact Nat.le_of_ble_eq_true rfl|(simp only [List.length_append,List.length_cons,List.length_nil];omega)):P:=h
theorem FS {P:Prop} (h:P:=by first|omega|(dsimp only<;>omega)|(simp only [List.length_append,List.length_cons,List.length_nil]<;>omega)):P:=h
theorem GE {P:Prop} (h:P:=by dsimp only<;>omega):P:=h
theorem GT {P:Prop} (h:P:=by grind):P:=h
theorem H1 {P:Prop} (h:P:=by omega):P:=h
theorem IR {P:Prop} (h:P:=by decide):P:=h
theorem M2 {P:Prop} (h:P:=by kernel_rfl):P:=h
theorem Nm {P:Prop} (h:P:=by assumption):P:=h
theorem NE {P:Prop} (h:P:=by decide +kernel):P:=h
theorem Pi {P:Prop} (h:P:=by simp):P:=h
theorem PP {P:Prop} (h:P:=by rfl):P:=h
theorem RK {P:Prop} (h:P:=by first|assumption|omega):P:=h
theorem So {P:Prop} (h:P:=by rw [List.length_drop];omega):P:=h
theorem WF {P:Prop} (h:P:=by rw [List.length_take];omega):P:=h
theorem bl {P:Prop} (h:P:=by rw [List.length_append,List.length_singleton];omega):P:=h
theorem f7 {P:Prop} (h:P:=by simp only [List.length_append,List.length_cons,List.length_nil];omega):P:=h
theorem f8 {P:Prop} (h:P:=by simp only [List.length_append,List.length_cons,List.length_nil]<;>omega):P:=h
theorem f9 {P:Prop} (h:P:=by dsimp only;omega):P:=h
theorem i6 {P:Prop} (h:P:=by simp;omega):P:=h
theorem i7 {P:Prop} (h:P:=by first|omega|(dsimp only<;>omega)):P:=h
theorem kw {P:Prop} (h:P:=by first|omega|(simp only [List.length_append,List.length_cons,List.length_nil]<;>omega)|(dsimp only<;>omega)):P:=h
theorem la {P:Prop} (h:P:=by first|omega|(simp only [List.length_append,List.length_cons,List.length_nil]<;>omega)):P:=h
theorem li {P:Prop} (h:P:=by show 0+_<=_;omega):P:=h
theorem lm {P:Prop} (h:P:=by simp_all):P:=h
namespace Go.Aw
open Go
inductive Ay where
 |any|full|tok (b:Nat)
inductive V where
 |Cc
 |bool (b:Bool)
 |int (k:IntKind) (n:Int)
 |str (s:List UInt8)
 |agg (cs:List V)
 |Bl (vs:List V)
 |slice (sz:Nat) (es:List (List V)) (own:Ay)
 |ptr (b:Nat) (off:Nat)
 |Cd (id:Nat) (off:Nat)
 |HK (e:List V) (off:Nat)
 |GK
 |func (f:FuncId) (first captured:List V)
 |AM
 |iface (t:TypeId) (v:V)
 |Ht
 |Qo (s:List UInt8) (pos:Nat)
 |Eg (sz b n cap:Nat)
 |jU (l:Nat)
def V.cells:V->List V
 | .agg cs=>cs
 |v=>[v]
def V.sc:V->Bool
 | .Cc| .agg _| .Bl _| .Qo _ _=>false
 |_=>true
def V.plain:V->Bool
 | .Cd _ _=>false
 |_=>true
def V.known:V->Bool
 | .Cd _ _| .Cc| .Qo _ _=>false
 |_=>true
def V.K8:V->V
 | .slice sz es _=>.slice sz es .any
 |v=>v
def V.xk:V->V
 | .slice sz es _=>.slice sz es .any
 | .agg cs=>.agg (cs.map V.K8)
 |v=>v
def V.wk:V->V
 | .slice sz es _=>.slice sz es .any
 | .agg cs=>.agg (cs.map V.K8)
 | .Bl vs=>.Bl (vs.map V.xk)
 |v=>v
structure St where
 box:Nat->Option (List V)
 hw:Nat->Option Nat
def St.Ab (st:St) (b:Nat) (cs:List V):St:={st with box:=λx=>if x=b then some cs else st.box x}
def St.Cw (st:St) (b:Nat) (h:Nat):St:={st with hw:=λx=>if x=b then some h else st.hw x}
def St.Fm (st:St) (b:Nat):St:={st with hw:=λx=>if x=b then none else st.hw x}
def St.fresh (st:St) (b:Nat):Prop:=st.box b=none/\st.hw b=none
def St.le (a b:St):Prop:=(∀x cs,a.box x=some cs->b.box x=some cs)/\∀x h,a.hw x=some h->b.hw x=some h
theorem St.le_refl (a:St):a.le a:=⟨λ_ _ h=>h,λ_ _ h=>h⟩
theorem St.Av {a b:St} (h:a.le b) {x:Nat} (U:a.box x=none) (cs:List V):a.le (b.Ab x cs):=
 ⟨λy c hy=>by
   simp only [St.Ab]
   split
   .simp_all
   .exact h.1 y c hy,h.2⟩
theorem St.JT {a b:St} (h:a.le b) {x:Nat} (U:a.hw x=none) (n:Nat):a.le (b.Cw x n):=
 ⟨h.1,λy c hy=>by
   simp only [St.Cw]
   split
   .simp_all
   .exact h.2 y c hy⟩
theorem St.le_trans {a b c:St} (h:a.le b) (k:b.le c):a.le c:=⟨λx cs U=>k.1 x cs (h.1 x cs U),λx n U=>k.2 x n (h.2 x n U)⟩
inductive Ty where
 |sc (z:V)
 |slice (elem:TypeId) (sz bytes:Nat)
 |struct (offs:List (Nat×Nat)) (zero:List V)
 |arr (offs:List (Nat×Nat)) (zero:List V)
def Ty.zero:Ty->V
 | .sc z=>z
 | .slice _ sz _=>.slice sz [] .full
 | .struct _ z=>.agg z
 | .arr _ z=>.agg z
noncomputable def assoc {α:Type} (l:List (Nat×α)) (t:Nat):Option α:=
 List.rec (motive:=λ_=>Option α) none (λp _ ih=>Bool.rec (motive:=λ_=>Option α) ih (some p.2) (Nat.beq p.1 t)) l
theorem BF {α:Type} (k:Nat) (v:α) (r:List (Nat×α)) (t:Nat):assoc ((k,v)::r) t=bif Nat.beq k t then some v else assoc r t:=by
 show Bool.rec (motive:=λ_=>Option α) (assoc r t) (some v) (Nat.beq k t)=_
 cases Nat.beq k t<;>rfl
structure Env where
 tmps:List (Nat×V)
 boxes:List (Nat×List V)
 BS:Nat
 sz:Nat
 gl:List Nat
noncomputable def Env.get (e:Env) (t:Nat):V:=match assoc e.tmps t with|some v=>v|none=>.Cc
def GV:Operand->Bool
 | .const (.slice none 0 0)=>true
 |_=>false
def Ri:Value->V
 | .bool b=>.bool b
 | .int k n=>.int k n
 | .string ⟨⟨l⟩⟩=>match Nat.blt l.length 4611686018427387904 with|true=>.str l|false=>.Cc
 | .nilFunc=>.AM
 | .nilIface=>.Ht
 | .pointer none=>.GK
 |_=>.Cc
noncomputable def Env.eval (e:Env):Operand->V
 | .tmp t=>e.get t
 | .const v=>Ri v
 | .func f=>.func f [] []
 | .global _=>.Cc
section
variable (T:List (Nat×Ty))
noncomputable def Env.CC (e:Env) (t:TypeId) (x:Operand):V:=
 match GV x with
 |true=>match assoc T t with
  |some (.slice _ sz _)=>.slice sz [] .full
  |_=>.Cc
 |false=>e.eval x
end
def lit (b:Bool) (p q:Prop):Prop:=match b with|true=>p|false=>q
def Ev (b:Bool) (p:Prop):Prop:=match b with|true=>p|false=>False
theorem A7 {b:Bool} {p:Prop} (h:b=true) (k:p):Ev b p:=by subst h;exact k
theorem AE {b:Bool} {p:Prop}:Ev b p↔b=true/\p:=by cases b<;>simp [Ev]
inductive BG (b:Bool) (p q:Prop):Prop where
 |mk:(b=true->p)->(b=false->q)->BG b p q
theorem Wk {b:Bool} {p q:Prop} (h:b=true->p) (k:b=false->q):BG b p q:=.mk h k
theorem Bu {p q:Prop}:BG true p q↔p:=⟨λ⟨h,_⟩=>h rfl,λh=>.mk (λ_=>h) (λe=>by cases e)⟩
theorem Bk {p q:Prop}:BG false p q↔q:=⟨λ⟨_,h⟩=>h rfl,λh=>.mk (λe=>by cases e) (λ_=>h)⟩
theorem Wi {p q:Prop} (h:p):BG true p q:=Bu.2 h
theorem Wj {p q:Prop} (h:q):BG false p q:=Bk.2 h
def V.force (v:V) (K:V->Prop):Prop:=
 match v with
 | .Cc=>K .Cc
 | .bool b=>K (.bool b)
 | .int k n=>K (.int k n)
 | .str s=>K (.str s)
 | .agg cs=>K (.agg cs)
 | .Bl vs=>K (.Bl vs)
 | .slice sz es o=>K (.slice sz es o)
 | .ptr b o=>K (.ptr b o)
 | .Cd b o=>K (.Cd b o)
 | .HK b o=>K (.HK b o)
 | .GK=>K .GK
 | .func f a c=>K (.func f a c)
 | .AM=>K .AM
 | .iface t v=>K (.iface t v)
 | .Ht=>K .Ht
 | .Qo s n=>K (.Qo s n)
 | .Eg sz b n c=>K (.Eg sz b n c)
 | .jU l=>K (.jU l)
theorem V.AY {v:V} {K:V->Prop}:v.force K↔K v:=by
 cases v<;>exact Iff.rfl
def V.part (v:V) (K:V->Prop):Prop:=
 match v with
 | .bool b=>BG b (K (.bool true)) (K (.bool false))
 |v=>v.force K
theorem V.SE {v:V} {K:V->Prop}:v.part K↔K v:=by
 cases v with
 |bool b=>cases b<;>first|exact Bk|exact Bu
 |_=>simp only [V.part,V.AY]
def eE (l:List V):(List V->Prop)->Prop:=
 List.rec (motive:=λ_=>(List V->Prop)->Prop) (λK=>K []) (λv _ ih K=>v.part λv=>ih λr=>K (v::r)) l
theorem cg (v:V) (r:List V) (K:List V->Prop):eE (v::r) K=v.part λv=>eE r λr=>K (v::r):=rfl
theorem Uk:∀{l:List V} {K:List V->Prop},eE l K↔K l
 |[],_=>Iff.rfl
 |v::r,K=>by rw [cg,V.SE,Uk]
def V.back (v:V) (K:V->Prop):Prop:=
 match v with
 | .Bl vs=>eE vs λvs=>K (.Bl vs)
 |v=>v.part K
theorem V.Rr {v:V} {K:V->Prop}:v.back K↔K v:=by
 cases v with
 |Bl vs=>exact Uk
 |_=>simp only [V.back,V.SE]
def GS (l:List V):(List V->Prop)->Prop:=
 List.rec (motive:=λ_=>(List V->Prop)->Prop) (λK=>K []) (λv _ ih K=>v.force λv=>ih λr=>K (v::r)) l
theorem X5 (v:V) (r:List V) (K:List V->Prop):GS (v::r) K=v.force λv=>GS r λr=>K (v::r):=rfl
theorem Bq:∀{l:List V} {K:List V->Prop},GS l K↔K l
 |[],_=>Iff.rfl
 |v::r,K=>by rw [X5,V.AY,Bq]
def NY (l:List (List V)):(List (List V)->Prop)->Prop:=
 List.rec (motive:=λ_=>(List (List V)->Prop)->Prop) (λK=>K []) (λv _ ih K=>GS v λv=>ih λr=>K (v::r)) l
theorem Vr (v:List V) (r:List (List V)) (K:List (List V)->Prop):NY (v::r) K=GS v λv=>NY r λr=>K (v::r):=rfl
theorem IQ:∀{l:List (List V)} {K:List (List V)->Prop},NY l K↔K l
 |[],_=>Iff.rfl
 |v::r,K=>by rw [Vr,Bq,IQ]
inductive AD where
 |ret (v:V)
 |Ci (v:V)
inductive AG where
 |normal|exit (id:Nat)|goto (l:Nat)|ret|Ci (v:V)
def Fk:Nat:=4611686018427387904
def Xn (env:Env) (l:List Operand):(List V->Prop)->Prop:=
 List.rec (motive:=λ_=>(List V->Prop)->Prop) (λK=>K []) (λx _ ih K=>(env.eval x).force λv=>Ev v.plain (ih λvs=>K (v::vs))) l
theorem XV (env:Env) (x:Operand) (r:List Operand) (K:List V->Prop):Xn env (x::r) K=(env.eval x).force λv=>Ev v.plain (Xn env r λvs=>K (v::vs)):=rfl
section
variable (T:List (Nat×Ty))
def aW (env:Env) (ts:List TypeId) (l:List Operand):(List V->Prop)->Prop:=
 List.rec (motive:=λ_=>List TypeId->(List V->Prop)->Prop) (λ_ K=>K [])
  (λx _ ih ts K=>(env.CC T (ts.headD 0) x).force λv=>Ev v.plain (ih ts.tail λvs=>K (v::vs))) l ts
theorem T2 (env:Env) (ts:List TypeId) (x:Operand) (r:List Operand) (K:List V->Prop):
 aW T env ts (x::r) K=(env.CC T (ts.headD 0) x).force λv=>Ev v.plain (aW T env ts.tail r λvs=>K (v::vs)):=rfl
end
def bin (op:BinOp) (x y:V) (K:V->Prop):Prop:=
 match x,y with
 | .int k a,.int U b=>
   Ev (decide (k=U)) (match op with
   | .add=>∃r,r=k.wrap (a+b)/\K (.int k r)
   | .sub=>∃r,r=k.wrap (a - b)/\K (.int k r)
   | .mul=>∃r,r=k.wrap (a*b)/\K (.int k r)
   | .quo=>b≠0/\∃r,r=k.wrap (a.tdiv b)/\K (.int k r)
   | .rem=>b≠0/\K (.int k (a.tmod b))
   | .and=>∃r,r=k.wrap ((BitVec.ofInt k.bits a&&&BitVec.ofInt k.bits b).toNat:Int)/\K (.int k r)
   | .eql=>BG (a==b) (K (.bool true)) (K (.bool false))
   | .neq=>BG (a==b) (K (.bool false)) (K (.bool true))
   | .lss=>BG (decide (a<b)) (K (.bool true)) (K (.bool false))
   | .leq=>BG (decide (a<=b)) (K (.bool true)) (K (.bool false))
   | .gtr=>BG (decide (b<a)) (K (.bool true)) (K (.bool false))
   | .geq=>BG (decide (b<=a)) (K (.bool true)) (K (.bool false))
   |_=>False)
 | .str a,.str b=>
   match op with
   | .add=>a.length+b.length<Fk/\K (.str (a++b))
   | .eql=>BG (a==b) (K (.bool true)) (K (.bool false))
   | .neq=>BG (a==b) (K (.bool false)) (K (.bool true))
   |_=>False
 |_,_=>False
def kT (z x y:V):Option Bool:=
 match z,x,y with
 | .int _ _,.int k a,.int U b=>bif decide (k=U) then some (a==b) else none
 | .str _,.str a,.str b=>some (a==b)
 | .bool _,.bool a,.bool b=>some (a==b)
 |_,_,_=>none
noncomputable def qQ (z:List V):List V->List V->Option Bool:=
 List.rec (motive:=λ_=>List V->List V->Option Bool) (λU ys=>match U,ys with|[],[]=>some true|_,_=>none)
  (λz _ ih U ys=>match U,ys with
    |x::U,y::ys=>match kT z x y,ih U ys with
     |some a,some b=>some (a&&b)
     |_,_=>none
    |_,_=>none) z
theorem gI (z:V) (r U ys:List V):qQ (z::r) U ys=match U,ys with
 |x::U,y::ys=>match kT z x y,qQ r U ys with
  |some a,some b=>some (a&&b)
  |_,_=>none
 |_,_=>none:=rfl
def dR (z:List V):Bool:=z.all λ| .int _ _| .str _| .bool _=>true|_=>false
def isNilIface:Operand->Bool
 | .const .nilIface=>true
 |_=>false
def Ni (op:BinOp) (ty:Option Ty) (v:V) (K:V->Prop):Prop:=
 match ty with
 |some (.sc .Ht)=>match op,v with
  | .eql,.Ht=>K (.bool true)
  | .eql,.iface _ _=>K (.bool false)
  | .neq,.Ht=>K (.bool false)
  | .neq,.iface _ _=>K (.bool true)
  |_,_=>False
 |_=>False
def SB (op:BinOp) (ty:Option Ty) (v:V) (K:V->Prop):Prop:=
 match ty with
 |some (.slice _ _ _)=>match op,v with
  | .eql,.slice _ es _=>∀b:Bool,(b=true->es=[])->K (.bool b)
  | .neq,.slice _ es _=>∀b:Bool,(b=false->es=[])->K (.bool b)
  |_,_=>False
 |_=>False
def U0 (op:BinOp) (ty:Option Ty) (U:List V) (y:V) (K:V->Prop):Prop:=
 match ty,y with
 |some (.struct _ z),.agg ys=>Ev (dR z) (match qQ z U ys with
  |some b=>match op with
   | .eql=>BG b (K (.bool true)) (K (.bool false))
   | .neq=>BG b (K (.bool false)) (K (.bool true))
   |_=>False
  |none=>False)
 |_,_=>False
def Qz (op:BinOp) (ty:Option Ty) (a:Bool) (y:V) (K:V->Prop):Prop:=
 match ty,y with
 |some (.sc (.bool _)),.bool b=>match op with
  | .eql=>BG a (BG b (K (.bool true)) (K (.bool false))) (BG b (K (.bool false)) (K (.bool true)))
  | .neq=>BG a (BG b (K (.bool false)) (K (.bool true))) (BG b (K (.bool true)) (K (.bool false)))
  |_=>False
 |_,_=>False
def fX (op:BinOp) (ty:Option Ty) (x y:V) (K:V->Prop):Prop:=
 match x with
 | .agg U=>U0 op ty U y K
 | .bool a=>Qz op ty a y K
 |x=>bin op x y K
def V.Qn:V->Bool
 | .Qo _ _=>false
 |_=>true
def Qn:List V->Bool
 |[v]=>v.Qn
 |_=>true
def DS (cs:List V) (off:Nat) (ty:Option Ty) (K:V->Prop):Prop:=
 Ev (Qn cs) (match ty with
 |some (.struct _ z)|some (.arr _ z)=>
  match Nat.beq off 0&&Nat.beq z.length cs.length with
  |true=>K (.agg cs)
  |false=>Ev (Nat.ble (off+z.length) cs.length) (GS ((cs.drop off).take z.length) λl=>K (.agg l))
 |some _=>match cs[off]? with|some v=>v.force K|none=>False
 |none=>False)
def GC (cs:List V) (off:Nat) (new:List V) (K:List V->Prop):Prop:=
 Ev (Qn cs) (Ev (Nat.ble (off+new.length) cs.length) (Ev (new.all V.sc) (GS (cs.take off++new++cs.drop (off+new.length)) K)))
def NX (U:List (Nat×Nat)) (cs:List V) (l:List (Nat×V)):(List V->Prop)->Prop:=
 List.rec (motive:=λ_=>List V->(List V->Prop)->Prop) (λcs K=>GS cs K) (λp _ ih cs K=>match U[p.1]? with
  |some (off,size)=>Ev (Nat.beq p.2.cells.length size) (Ev (Nat.ble (off+size) cs.length) (ih (cs.take off++p.2.cells++cs.drop (off+size)) K))
  |none=>False) l cs
theorem R9 (U:List (Nat×Nat)) (cs:List V) (i:Nat) (v:V) (r:List (Nat×V)) (K:List V->Prop):NX U cs ((i,v)::r) K=(match U[i]? with
 |some (off,size)=>Ev (Nat.beq v.cells.length size) (Ev (Nat.ble (off+size) cs.length) (NX U (cs.take off++v.cells++cs.drop (off+size)) r K))
 |none=>False):=rfl
def HL (env:Env) (l:List (Nat×Operand)):(List (Nat×V)->Prop)->Prop:=
 List.rec (motive:=λ_=>(List (Nat×V)->Prop)->Prop) (λK=>K []) (λp _ ih K=>(env.eval p.2).force λv=>Ev v.known (ih λvs=>K ((p.1,v)::vs))) l
theorem NU (env:Env) (i:Nat) (x:Operand) (r:List (Nat×Operand)) (K:List (Nat×V)->Prop):
 HL env ((i,x)::r) K=(env.eval x).force λv=>Ev v.known (HL env r λvs=>K ((i,v)::vs)):=rfl
def Ox:Nat->List (Nat×Operand)->Bool
 |_,[]=>true
 |n,(i,_)::r=>Nat.beq i n&&Ox (n+1) r
def Env.Mw (e:Env) (d:Option Nat):Bool:=match d with|some t=>e.gl.any (Nat.beq t)|none=>false
def Ik (env:Env) (st:St) (d:Option Nat) (cs:List V) (K:V->Env->St->Prop):Prop:=
 match env.Mw d with
 |true=>GS cs λcs=>∀b,st.fresh b->K (.ptr b 0) env (st.Ab b cs)
 |false=>GS cs λcs=>match env with
  |⟨ts,bs,n,sz,gl⟩=>K (.Cd n 0) ⟨ts,(n,cs)::bs,n+1,sz,gl⟩ st
def Ai (sz bytes:Nat) (es:List (List V)) (own:Ay) (new:List (List V)) (st:St) (K:V->St->Prop):Prop:=
 (es.length+new.length)*bytes<=140737488355328/\es.length+new.length<Fk/\Ev (new.all λv=>v.all V.sc) (
 match own with
 | .any=>False
 | .full=>(new=[]->K (.slice sz es .full) st)/\
    (new≠[]->(∀b,st.fresh b->K (.slice sz (es++new.map (·.map V.K8)) (.tok b)) (st.Cw b ((es.length+new.length)*sz)))\/
      ∀b cap m,st.fresh b->(es.length+new.length)*sz+m=cap*sz->K (.Eg sz b (es.length+new.length) cap) (st.Ab b ((es++new.map (·.map V.K8)).flatten++List.replicate m .Cc)))
 | .tok b=>st.hw b=some (es.length*sz)/\
    ((∀U,(U=b\/st.fresh U)->K (.slice sz (es++new.map (·.map V.K8)) (.tok U)) ((st.Fm b).Cw U ((es.length+new.length)*sz)))\/K .Cc st))
def E2 (sz bytes b n cap:Nat) (new:List (List V)) (st:St) (K:V->St->Prop):Prop:=
 (n+new.length)*bytes<=140737488355328/\n+new.length<Fk/\Ev (new.all λv=>v.all V.sc) (new≠[]/\∃cs,st.box b=some cs/\cs.length=cap*sz/\
   ∀b' U m,(b'=b\/st.fresh b')->(n+new.length)*sz+m=U*sz->K (.Eg sz b' (n+new.length) U) (st.Ab b' (cs.take (n*sz)++(new.map (·.map V.K8)).flatten++List.replicate m .Cc)))
def Ay.st (st:St) (n:Nat):Ay->St
 | .tok b=>st.Cw b n
 |_=>st
def Ay.B5 (st:St):Ay->Prop
 | .full=>True
 | .tok b=>st.fresh b
 | .any=>False
theorem HH {sz bytes:Nat} {es:List (List V)} {own:Ay} {new:List (List V)} {st:St} {K:V->St->Prop} (h:own.B5 st)
 (h1:(es.length+new.length)*bytes<=140737488355328) (h2:es.length+new.length<Fk) (h3:(new.all λv=>v.all V.sc)=true)
 (k:∀U:Ay,U.B5 st->K (.slice sz (es++new.map (·.map V.K8)) U) (U.st st ((es.length+new.length)*sz))):
 Ai sz bytes es own new (own.st st (es.length*sz)) K:=by
 refine ⟨h1,h2,A7 h3 ?_⟩
 cases own with
 |any=>exact h.elim
 |full=>exact ⟨λe=>by simp_all,λ_=>.inl λb hb=>k (.tok b) hb⟩
 |tok b=>
  refine ⟨by simp [Ay.st,St.Cw],.inl λb' hb'=>?_⟩
  have hf:st.fresh b:=h
  have e:(st.Cw b (es.length*sz)).Fm b=st:=by
   cases st
   simp only [St.Cw,St.Fm,St.mk.injEq,true_and]
   funext x
   split
   .rename_i e;subst e;exact hf.2.symm
   .rfl
  show K _ (((st.Cw b (es.length*sz)).Fm b).Cw b' _)
  rw [e]
  refine k (.tok b') ?_
  rcases hb' with rfl|hb'
  .exact hf
  .refine ⟨hb'.1,?_⟩
   have:=hb'.2
   simp only [Ay.st,St.Cw] at this
   grind
theorem Xt {sz bytes b:Nat} {es new:List (List V)} {st:St} {K:V->St->Prop} (U:(es.length+new.length)*bytes<=140737488355328) (h2:es.length+new.length<Fk) (h3:(new.all λv=>v.all V.sc)=true) (h:st.hw b=some (es.length*sz)) (k:K .Cc st):
 Ai sz bytes es (.tok b) new st K:=⟨U,h2,A7 h3 ⟨h,.inr k⟩⟩
theorem Tv {sz bytes:Nat} {es:List (List V)} {new:List (List V)} {st:St} {K:V->St->Prop}
 (U:(es.length+new.length)*bytes<=140737488355328) (h2:es.length+new.length<Fk) (h3:(new.all λv=>v.all V.sc)=true) (hn:new≠[])
 (k:∀b cap m,st.fresh b->(es.length+new.length)*sz+m=cap*sz->K (.Eg sz b (es.length+new.length) cap) (st.Ab b ((es++new.map (·.map V.K8)).flatten++List.replicate m .Cc))):
 Ai sz bytes es .full new st K:=⟨U,h2,A7 h3 ⟨λe=>absurd e hn,λ_=>.inr k⟩⟩
theorem Ay.Bj {st:St} {own:Ay} {n:Nat} (h:own.B5 st):st.le (own.st st n):=by
 cases own with
 |any=>exact h.elim
 |full=>exact St.le_refl _
 |tok b=>exact St.JT (St.le_refl _) (show st.fresh b from h).2 n
section
variable (P:Program) (T:List (Nat×Ty)) (C:FuncId->List V->St->(AD->St->Prop)->Prop)
def Br:List UInt8->Nat×Nat
 |[]=>(0,1)
 |a::l=>
  let cont (k:Nat):Bool:=match l[k]? with|some b=>b.toNat / 64==2|none=>false
  let U (k:Nat):Nat:=(l.getD k 0).toNat
  if a.toNat<128 then (a.toNat,1)
  else if a.toNat / 32==6&&cont 0 then
   (if a.toNat % 32*64+U 0 % 64>=128 then (a.toNat % 32*64+U 0 % 64,2) else (65533,1))
  else if a.toNat / 16==14&&cont 0&&cont 1 then
   (if a.toNat % 16*4096+U 0 % 64*64+U 1 % 64>=2048&&Utf8.valid ((a.toNat % 16*4096+U 0 % 64*64+U 1 % 64:Nat):Int) then (a.toNat % 16*4096+U 0 % 64*64+U 1 % 64,3) else (65533,1))
  else if a.toNat / 8==30&&cont 0&&cont 1&&cont 2 then
   (if a.toNat % 8*262144+U 0 % 64*4096+U 1 % 64*64+U 2 % 64>=65536&&Utf8.valid ((a.toNat % 8*262144+U 0 % 64*4096+U 1 % 64*64+U 2 % 64:Nat):Int) then (a.toNat % 8*262144+U 0 % 64*4096+U 1 % 64*64+U 2 % 64,4) else (65533,1))
  else (65533,1)
def FD (o:Oper) (env:Env) (st:St) (K:V->Env->St->Prop) (Q:AG->Env->St->Prop):Prop:=
 match o.op with
 | .move x| .assign x=>(env.CC T o.type x).force λv=>K v env st
 | .pick c a b=>match env.eval c with
   | .bool t=>lit t ((env.CC T o.type a).force λv=>K v env st) ((env.CC T o.type b).force λv=>K v env st)
   |_=>False
 | .alloc t=>match assoc T t with
   |some ty=>Ik env st o.dst ty.zero.cells K
   |none=>False
 | .box t x=>(env.CC T t x).force λv=>Ev v.known (Ik env st o.dst v.cells K)
 | .build t parts=>match assoc T t with
   |some (.struct U z)=>HL env parts.toList λps=>NX U z ps λcs=>K (.agg cs) env st
   |some (.arr U z)=>HL env parts.toList λps=>NX U z ps λcs=>K (.agg cs) env st
   |_=>False
 | .buildSlice t len parts=>match assoc T t with
   |some (.slice _ sz _)=>Ev (Ox 0 parts.toList) (Ev (Nat.beq len parts.toList.length) (Ev (Nat.ble (len*sz) 16777216)
    (Xn env (parts.toList.map (·.2)) λvs=>Ev (vs.all λv=>v.known&&Nat.beq v.cells.length sz) (NY (vs.map λv=>v.cells.map V.K8) λes=>K (.slice sz es .full) env st))))
   |_=>False
 | .load t x=>match env.eval x with
   | .Cd id off=>match assoc env.boxes id with
     |some cs=>DS cs off (assoc T t) (λv=>K v env st)
     |none=>False
   | .ptr b off=>∃cs,st.box b=some cs/\DS cs off (assoc T t) (λv=>K v env st)
   | .HK e off=>DS e off (assoc T t) (λv=>K v env st)
   |_=>False
 | .store t x y=>match env.eval x with
   | .Cd id off=>match assoc env.boxes id,assoc T t with
     |some cs,some ty=>match env with
      |⟨ts,bs,n,sz,gl⟩=>(Env.CC T ⟨ts,bs,n,sz,gl⟩ t y).force λv=>Ev (v.known&&Nat.beq v.cells.length ty.zero.cells.length)
       (GC cs off v.cells λcs'=>K .Cc ⟨ts,(id,cs')::bs,n,sz,gl⟩ st)
     |_,_=>False
   | .ptr b off=>match assoc T t with
     |some ty=>∃cs,st.box b=some cs/\(env.CC T t y).force λv=>Ev (v.known&&Nat.beq v.cells.length ty.zero.cells.length)
       (GC cs off v.cells λcs'=>K .Cc env (st.Ab b cs'))
     |none=>False
   |_=>False
 | .nilCheck x=>match env.eval x with
   | .Cd id off=>K (.Cd id off) env st
   | .ptr b off=>K (.ptr b off) env st
   | .HK e off=>K (.HK e off) env st
   |_=>False
 | .fieldAddr t x f=>match assoc T t,env.eval x with
   |some (.struct U _),.Cd id off=>match U[f]? with|some (o,s)=>Ev (Nat.blt 0 s) (K (.Cd id (off+o)) env st)|none=>False
   |some (.struct U _),.ptr b off=>match U[f]? with|some (o,s)=>Ev (Nat.blt 0 s) (K (.ptr b (off+o)) env st)|none=>False
   |some (.struct U _),.HK e off=>match U[f]? with|some (o,s)=>Ev (Nat.blt 0 s) (K (.HK e (off+o)) env st)|none=>False
   |_,_=>False
 | .binOp op t x y _=>match isNilIface y with
   |true=>Ni op (assoc T t) (env.eval x) λv=>K v env st
   |false=>match GV y with
    |true=>SB op (assoc T t) (env.eval x) λv=>K v env st
    |false=>fX op (assoc T t) (env.eval x) (env.eval y) λv=>K v env st
 | .makeInterface t x=>match assoc T t with
   |some (.sc .Ht)=>False
   |some _=>(env.CC T t x).force λv=>Ev v.known (K (.iface t v) env st)
   |none=>False
 | .typeAssert x _ t ok=>match assoc T t with
   |some (.sc .Ht)=>False
   |some ty=>match env.eval x with
    | .iface t' v=>bif Nat.beq t' t then Ev v.known (bif ok then K (.Bl [v,.bool true]) env st else v.force λv=>K v env st) else Ev ok (K (.Bl [ty.zero,.bool false]) env st)
    | .Ht=>Ev ok (K (.Bl [ty.zero,.bool false]) env st)
    |_=>False
   |none=>False
 | .panic x=>match env.eval x with
   | .iface t v=>Q (.Ci (.iface t v)) env st
   |_=>False
 | .slice t x lo (some hi) (some mx)=>match assoc T t,env.eval x with
   |some (.slice _ sz' _),.slice sz es _=>
    match (lo.map env.eval).getD (.int .i64 0),env.eval hi,env.eval mx with
    | .int _ l,.int _ h,.int _ m=>Ev (Nat.beq sz' sz) ((0<=l/\l<=h/\h=m/\m<=es.length)/\∀es',es'=(es.take h.toNat).drop l.toNat->K (.slice sz es' .full) env st)
    |_,_,_=>False
   |_,_=>False
 | .unOp op _ x=>match op,env.eval x with
   | .not,.bool b=>lit b (K (.bool false) env st) (K (.bool true) env st)
   | .neg,.int k n=>∃r,r=k.wrap (0 - n)/\K (.int k r) env st
   |_,_=>False
 | .makeFunc (.func f) first cap=>Xn env first.toList λa=>Xn env cap.toList λc=>K (.func f a c) env st
 | .indexAddr t x i=>match assoc T t,env.eval x,env.eval i with
   |some (.slice _ sz' _),.slice sz es _,.int _ n=>Ev (Nat.beq sz' sz) (0<=n/\∃e,es[n.toNat]? =some e/\K (.HK e 0) env st)
   |some (.slice _ sz' _),.Eg sz b m _,.int _ n=>Ev (Nat.beq sz' sz) ((0<=n/\n<(m:Int))/\∀k,k=n.toNat*sz->K (.ptr b k) env st)
   |some (.arr U _),.Cd id off,.int _ n=>(match n with
    | .ofNat m=>(match U[m]? with|some (o,_)=>K (.Cd id (off+o)) env st|none=>False)
    | .negSucc _=>False)
   |_,_,_=>False
 | .index t x i=>match assoc T t,env.eval x,env.eval i with
   |some (.sc (.str _)),.str s,.int _ n=>0<=n/\∃e,s[n.toNat]? =some e/\K (.int .u8 e.toNat) env st
   |_,_,_=>False
 | .slice t x lo hi none=>match assoc T t,env.eval x with
   |some (.slice _ sz' _),.slice sz es _=>
    match (lo.map env.eval).getD (.int .i64 0),(hi.map env.eval).getD (.int .i64 es.length) with
    | .int _ l,.int _ h=>Ev (Nat.beq sz' sz) ((0<=l/\l<=h/\h<=es.length)/\∀es',es'=(es.take h.toNat).drop l.toNat->K (.slice sz es' .any) env st)
    |_,_=>False
   |some (.sc (.str _)),.str s=>
    match (lo.map env.eval).getD (.int .i64 0),(hi.map env.eval).getD (.int .i64 s.length) with
    | .int _ l,.int _ h=>(0<=l/\l<=h/\h<=s.length)/\∀s',s'=(s.take h.toNat).drop l.toNat->K (.str s') env st
    |_,_=>False
   |some (.slice _ sz' _),.Eg sz b n cap=>
    match (lo.map env.eval).getD (.int .i64 0),(hi.map env.eval).getD (.int .i64 n) with
    | .int _ l,.int _ h=>Ev (Nat.beq sz' sz) ((l=0/\0<=h/\h<=n)/\∀k,k=h.toNat->K (.Eg sz b k cap) env st)
    |_,_=>False
   |_,_=>False
 | .field t x f=>match assoc T t,env.eval x with
   |some (.struct U _),.agg cs=>match U[f]? with
    |some (o,1)=>match cs[o]? with|some v=>v.force λv=>K v env st|none=>False
    |_=>False
   |_,_=>False
 | .extract x i=>match env.eval x with
   | .Bl vs=>match vs[i]? with|some v=>v.force λv=>K v env st|none=>False
   |_=>False
 | .convert t u x=>match assoc T t,assoc T u,env.eval x with
   |some (.sc (.int _ _)),some (.sc (.int k' _)),.int _ n=>∃r,r=k'.wrap n/\K (.int k' r) env st
   |_,_,_=>False
 | .range t x=>match assoc T t,env.eval x with
   |some (.sc (.str _)),.str s=>Ev (!env.Mw o.dst) (match env with
    |⟨ts,bs,n,sz,gl⟩=>K (.Cd n 0) ⟨ts,(n,[.Qo s 0])::bs,n+1,sz,gl⟩ st)
   |_,_=>False
 | .next x true=>match env.eval x with
   | .Cd id 0=>match assoc env.boxes id with
     |some [.Qo s pos]=>match env with
      |⟨ts,bs,n,sz,gl⟩=>BG (decide (pos<s.length)) (∀c m,(c,m)=Br (s.drop pos)->K (.Bl [.bool true,.int .i64 pos,.int .i32 c]) ⟨ts,(id,[.Qo s (pos+m)])::bs,n,sz,gl⟩ st) (K (.Bl [.bool false]) ⟨ts,bs,n,sz,gl⟩ st)
     |_=>False
   |_=>False
 | .makeSlice t l c=>match assoc T t,env.eval l,env.eval c with
   |some (.slice el sz bytes),.int _ n,.int _ m=>(0<=n/\n<=m/\m*bytes<=140737488355328/\m<Fk)/\
    ((n=0/\∀b,st.fresh b->K (.slice sz [] (.tok b)) env (st.Cw b 0))\/
     (n=m/\match assoc T el with|some ty=>∀b k,st.fresh b->k=n.toNat->K (.Eg sz b k k) env (st.Ab b (List.replicate k ty.zero.cells).flatten)|none=>False))
   |_,_,_=>False
 | .call c=>match c.callee with
   | .builtin .len=>match c.args.toList.map env.eval,c.argTypes.toList.map (assoc T) with
     |[.slice _ es _],[some (.slice _ _ _)]=>∀m:Nat,m=es.length->m<Fk->K (.int .i64 m) env st
     |[.str s],[some (.sc (.str _))]=>s.length<Fk->K (.int .i64 s.length) env st
     |[.Eg _ _ n _],[some (.slice _ _ _)]=>n<Fk->K (.int .i64 n) env st
     |_,_=>False
   | .builtin .min=>match c.args.toList.map env.eval with
     |[.int k a,.int k' b]=>Ev (decide (k=k')) (∃r,r=(if b<a then b else a)/\K (.int k r) env st)
     |_=>False
   | .builtin .max=>match c.args.toList.map env.eval with
     |[.int k a,.int k' b]=>Ev (decide (k=k')) (∃r,r=(if a<b then b else a)/\K (.int k r) env st)
     |_=>False
   | .builtin .append=>match c.args.toList,c.argTypes.toList with
     |[x,y],[t,u]=>match assoc T t,assoc T u,env.CC T t x,env.CC T u y with
      |some (.slice _ sz bytes),some (.slice _ _ _),.slice sz' es own,.slice sz'' new _=>
       Ev (Nat.beq t u&&(Nat.beq sz sz'&&Nat.beq sz sz'')) (Ai sz bytes es own new st λv st'=>K v env st')
      |some (.slice _ sz bytes),some (.slice _ _ _),.Eg sz' b n cap,.slice sz'' new _=>
       Ev (Nat.beq t u&&(Nat.beq sz sz'&&Nat.beq sz sz'')) (E2 sz bytes b n cap new st λv st'=>K v env st')
      |_,_,_,_=>False
     |_,_=>False
   | .value f=>match env.eval f with
     | .func f a cap=>aW T env c.argTypes.toList c.args.toList λvs=>GS (a++(vs++cap)) λvs=>C f vs st λr st'=>match r with
       | .ret v=>v.back λv=>K v env st'
       | .Ci v=>Q (.Ci v) env st'
     |_=>False
   |_=>False
 |_=>False
def Env.go (env:Env) (d:Option Nat) (v:V) (K:Env->Prop):Prop:=
 match env,d with
 |⟨ts,bs,n,sz,gl⟩,some t=>Ev (Nat.blt t sz) (K ⟨(t,v)::ts,bs,n,sz,gl⟩)
 |e,none=>K e
def Bx (all:List Oper) (o:Oper) (env:Env) (yes no:Prop):Prop:=
 match o.guard with
 |none=>yes
 |some (j,want)=>
  match ((all[j]?).bind (·.dst)).map env.get with
  |some (.bool b)=>bif want then lit b yes no else lit b no yes
  |some (.Bl [])=>no
  |_=>False
def IZ (all:List Oper) (Q:AG->Env->St->Prop) (l:List Oper):Env->St->Prop:=
 List.rec (motive:=λ_=>Env->St->Prop) (λenv st=>Q .normal env st)
  (λo _ ih env st=>Bx all o env (FD T C o env st (λv env st=>env.go o.dst v λenv=>ih env st) Q) (env.go o.dst (.Bl []) λenv=>ih env st)) l
theorem cd (all:List Oper) (Q:AG->Env->St->Prop) (o:Oper) (r:List Oper) (env:Env) (st:St):IZ T C all Q (o::r) env st=
 Bx all o env (FD T C o env st (λv env st=>env.go o.dst v λenv=>IZ T C all Q r env st) Q) (env.go o.dst (.Bl []) λenv=>IZ T C all Q r env st):=rfl
noncomputable def Env.only (env:Env) (bs:List (Nat×List V)) (CX:List Nat):Env:={env with tmps:=CX.map λt=>(t,env.get t),boxes:=bs}
def Oper.CX (all:List Oper) (o:Oper):List Nat:=
 (o.op.operands.toList.filterMap λ| .tmp t=>some t|_=>none)++(match o.guard with|some (j,_)=>((all[j]?).bind (·.dst)).toList|none=>[])
def BZ (all:List Oper) (o:Oper) (bs:List (Nat×List V)) (env:Env) (st:St) (v:V):Prop:=
 FD T C o (env.only bs (Oper.CX all o)) st (λU e s=>U=v/\e=env.only bs (Oper.CX all o)/\s=st) (λ_ _ _=>False)
noncomputable def Bm (L:List (Option Nat)) (bs:List (Nat×List V)):List (Nat×List V):=
 List.rec (motive:=λ_=>List (Nat×List V)) [] (λp _ ih=>Bool.rec (motive:=λ_=>List (Nat×List V)) (p::ih) ih (L.contains (some p.1))) bs
def Bz (K:Env->St->Prop) (Q:AG->Env->St->Prop):AG->Env->St->Prop
 | .normal,e,s=>K e s
 |x,e,s=>Q x e s
def MY (id:Nat) (Q:AG->Env->St->Prop):AG->Env->St->Prop
 | .exit U,a,w=>bif Nat.beq U id then Q .normal a w else Q (.exit U) a w
 |e,a,w=>Q e a w
noncomputable def V.VI (bs:List (Nat×List V)):V->Bool
 | .Cd id _=>(assoc bs id).isSome
 |_=>true
def Env.le (env' env:Env):Prop:=
 env'.sz=env.sz/\(∀t v,assoc env'.tmps t=some v->v=.Cc\/(assoc env.tmps t=some v/\v.VI env'.boxes=true))/\
 (∀id cs,assoc env'.boxes id=some cs->assoc env.boxes id=some cs)/\(∀id cs,assoc env'.boxes id=some cs->id<env'.BS)
def bF (env:Env) (bs:List (Nat×List V)):List (Nat×V)->Prop
 |[]=>True
 |(t,v)::r=>(match assoc env.tmps t with|some u=>u=v|none=>False)/\v.VI bs=true/\bF env bs r
def VD (env:Env):List (Nat×List V)->Prop
 |[]=>True
 |(t,v)::r=>(match assoc env.boxes t with|some u=>u=v|none=>False)/\VD env r
def Env.C3 (env' env:Env):Prop:=env'.sz=env.sz/\bF env env'.boxes env'.tmps/\VD env env'.boxes/\(env'.boxes.all λp=>Nat.blt p.1 env'.BS)=true
theorem GO {α:Type}:∀{l:List (Nat×α)} {t:Nat} {v:α},assoc l t=some v->(t,v) ∈ l
 |(k,u)::r,t,v,h=>by
  rw [BF] at h
  cases U:Nat.beq k t with
  |true=>
   simp_all
  |false=>rw [U] at h;exact List.mem_cons_of_mem _ (GO h)
theorem Sn {env:Env} {bs:List (Nat×List V)}:∀{l:List (Nat×V)},bF env bs l->∀p ∈ l,assoc env.tmps p.1=some p.2/\p.2.VI bs=true
 |(t,v)::r,h,p,U=>by
  rcases List.mem_cons.1 U with rfl|U
  .refine ⟨?_,h.2.1⟩
   have h1:=h.1
   grind
  .exact Sn h.2.2 p U
theorem PV {env:Env}:∀{l:List (Nat×List V)},VD env l->∀p ∈ l,assoc env.boxes p.1=some p.2
 |(t,v)::r,h,p,U=>by
  rcases List.mem_cons.1 U with rfl|U
  .have h1:=h.1
   grind
  .exact PV h.2 p U
theorem Env.JS {env' env:Env} (h:env'.C3 env):env'.le env:=by
 refine ⟨h.1,λt v U=>.inr (Sn h.2.1 (t,v) (GO U)),λid cs hb=>PV h.2.2.1 (id,cs) (GO hb),λid cs hb=>?_⟩
 have:=List.all_eq_true.1 h.2.2.2 (id,cs) (GO hb)
 simp_all
def Ce:Op->Bool
 | .alloc _| .box _ _| .store _ _ _| .range _ _| .next _ _| .makeSlice _ _ _=>false
 |_=>true
def reaches (all:List Oper):Nat->Nat->Nat->Bool
 |0,_,_=>false
 |n+1,i,j=>match all[i]? with
  |some o=>(o.after.toList.any λe=>Region.binds .any e&&Nat.beq e.on j)||o.after.toList.any λe=>Region.binds .any e&&Nat.blt j e.on&&reaches all n e.on j
  |none=>false
def cf (all:List Oper) (i j:Nat) (o p:Oper):Bool:=
 match p.dst with
 |none=>true
 |some t=> !(o.dst==some t)&&(!((Oper.CX all o).contains t)||(if Nat.blt j i then reaches all all.length i j else reaches all all.length j i))
def KY:St:=⟨λ_=>none,λ_=>none⟩
def FE:Op->Bool
 | .move _| .assign _| .pick _ _ _| .load _ _| .fieldAddr _ _ _| .nilCheck _| .binOp _ _ _ _ _| .unOp _ _ _| .build _ _| .buildSlice _ _ _| .extract _ _| .field _ _ _| .makeFunc _ _ _| .index _ _ _| .indexAddr _ _ _| .slice _ _ _ _ _| .makeInterface _ _| .convert _ _ _=>true
 | .call ⟨.builtin .len,_,_⟩| .call ⟨.builtin .min,_,_⟩| .call ⟨.builtin .max,_,_⟩=>true
 |_=>false
def Dt:Op->Bool
 | .store _ _ _=>true
 |_=>false
noncomputable def Hx (L:List Nat) (env:Env) (o:Oper):Bool:=match o.op with
 | .store _ x _=>match env.eval x with
   | .Cd id _=>L.contains id
   |_=>true
 |_=>true
noncomputable def ei (all:List Oper) (l:List (Nat×Bool)):List Nat->Bool:=
 List.rec (motive:=λ_=>List Nat->Bool) (λ_=>true) (λp r ih done=>(match all[p.1]? with
  |some o=>(o.after.toList.all λe=> !(Region.binds .any e)||done.contains e.on)&&(bif p.2 then FE o.op else (Ce o.op||Dt o.op))
  |none=>false)&&(!(done.contains p.1)&&((p.2||r.all λx=>reaches all all.length x.1 p.1)&&ih (p.1::done)))) l
noncomputable def F5 (sched:List (Nat×Bool)) (all:List Oper):Bool:=
 ((List.range all.length).all λi=>sched.any λp=>Nat.beq p.1 i)&&(ei all sched []&&(List.range all.length).all λi=>(List.range all.length).all λj=>Nat.beq i j||match all[i]?,all[j]? with
   |some o,some p=>cf all i j o p
   |_,_=>true)
def H7 (S:List (Nat×Bool)) (all:List Oper) (i:Nat):Bool:=S.all λx=>x.2||reaches all all.length x.1 i
def G4 (S:List (Nat×Bool)) (all:List Oper) (i:Nat):Bool:=S.all λx=>x.2||((match all[x.1]? with|some o=> !Dt o.op|none=>false)||reaches all all.length x.1 i)
def Ee (all:List Oper) (S:List (Nat×Bool)) (L:List Nat) (U:List (Nat×List V)) (Q:AG->Env->St->Prop) (l:List (Nat×Bool)):Env->St->Prop:=
 List.rec (motive:=λ_=>Env->St->Prop) (λenv st=>Q .normal env st) (λp _ ih env st=>match all[p.1]? with
  |none=>False
  |some o=>match p.2 with
   |true=>Bx all o env (∃v,(BZ T C all o U env KY v\/(H7 S all p.1=true/\BZ T C all o env.boxes env st v)\/(G4 S all p.1=true/\BZ T C all o env.boxes env KY v))/\v.part λv=>env.go o.dst v λenv=>ih env st) (env.go o.dst (.Bl []) λenv=>ih env st)
   |false=>Bx all o env (Ev (Hx L env o) (FD T C o env st (λv env st=>env.go o.dst v λenv=>ih env st) (λx _ s=>∀e',Q x e' s))) (env.go o.dst (.Bl []) λenv=>ih env st)) l
theorem Ng (all:List Oper) (S:List (Nat×Bool)) (L:List Nat) (U:List (Nat×List V)) (Q:AG->Env->St->Prop) (p:Nat×Bool) (r:List (Nat×Bool)) (env:Env) (st:St):Ee T C all S L U Q (p::r) env st=(match all[p.1]? with
 |none=>False
 |some o=>match p.2 with
  |true=>Bx all o env (∃v,(BZ T C all o U env KY v\/(H7 S all p.1=true/\BZ T C all o env.boxes env st v)\/(G4 S all p.1=true/\BZ T C all o env.boxes env KY v))/\v.part λv=>env.go o.dst v λenv=>Ee T C all S L U Q r env st) (env.go o.dst (.Bl []) λenv=>Ee T C all S L U Q r env st)
  |false=>Bx all o env (Ev (Hx L env o) (FD T C o env st (λv env st=>env.go o.dst v λenv=>Ee T C all S L U Q r env st) (λx _ s=>∀e',Q x e' s))) (env.go o.dst (.Bl []) λenv=>Ee T C all S L U Q r env st)):=rfl
def dU (J:Nat->Env->St->Prop) (Q:AG->Env->St->Prop):AG->Env->St->Prop
 | .goto l,e,s=>J l e s
 |x,e,s=>Q x e s
abbrev CW:Type:=(AG->Env->St->Prop)->Env->St->Prop
abbrev zg:Type:=CW×(Nat->Option CW)
def wN (U:Option CW) (wb:CW) (lb:Option CW):Option CW:=
 match U with
 |some f=>some λQ env st=>f (Bz (wb Q) Q) env st
 |none=>lb
def QZ (w:CW) (lw:Nat->Option CW) (Q:AG->Env->St->Prop) (env:Env) (st:St):Prop:=
 ∃(α:Type) (U:α->Nat) (E:α->Env) (S:α->St) (J:α->Prop) (μ:α->Nat),
  w (dU (λl env' st'=>∃y,U y=l/\J y/\(E y).C3 env'/\St.le (S y) st') Q) env st/\
  ∀x,J x->∃f,lw (U x)=some f/\f (dU (λl env' st'=>∃y,U y=l/\J y/\μ y<μ x/\(E y).C3 env'/\St.le (S y) st') Q) (E x) (S x)
noncomputable def NH (c:Code):zg:=
 Code.rec (motive:=λ_=>zg)
  ⟨λQ env st=>Q .normal env st,λ_=>none⟩
  (λ_ ops draw=>⟨λQ env st=>Bool.rec (motive:=λ_=>Prop) (IZ T C ops.toList Q ops.toList env st) (∃(sched:List (Nat×Bool)) (L:List Nat),F5 sched ops.toList=true/\Ee T C ops.toList sched L (Bm (L.map some) env.boxes) Q sched env st) draw,λ_=>none⟩)
  (λ_ _ iha U=>⟨λQ env st=>iha.1 (Bz (U.1 Q) Q) env st,λl=>wN (iha.2 l) U.1 (U.2 l)⟩)
  (λc _ _ iha U=>⟨λQ env st=>match env.eval c with
    | .bool t=>lit t (iha.1 Q env st) (U.1 Q env st)
    |_=>False,λ_=>none⟩)
  (λid _ ih=>⟨λQ env st=>ih.1 (MY id Q) env st,λ_=>none⟩)
  (λ_ ih=>⟨λQ env st=>∃(α:Type) (E:α->Env) (S:α->St) (J:α->Prop) (μ:α->Nat) (x0:α),J x0/\(E x0).C3 env/\St.le (S x0) st/\
    ∀x,J x->ih.1 (Bz (λenv' st'=>∃y,J y/\μ y<μ x/\(E y).C3 env'/\St.le (S y) st') Q) (E x) (S x),λ_=>none⟩)
  (λ_ _ _ _ _ _=>⟨λ_ _ _=>False,λ_=>none⟩)
  (λid=>⟨λQ env st=>Q (.exit id) env st,λ_=>none⟩)
  (λ_ ih=>⟨λQ env st=>QZ ih.1 ih.2 Q env st,λ_=>none⟩)
  (λl'=>⟨λQ env st=>Q .normal env st,λl=>bif Nat.beq l' l then some λQ env st=>Q .normal env st else none⟩)
  (λl=>⟨λQ env st=>Q (.goto l) env st,λ_=>none⟩)
  ⟨λQ env st=>Q .ret env st,λ_=>none⟩
  (λ_=>⟨λ_ _ _=>False,λ_=>none⟩) c
noncomputable def Qx (c:Code) (Q:AG->Env->St->Prop) (env:Env) (st:St):Prop:=(NH T C c).1 Q env st
def VV (env:Env) (st:St) (x:ResultVar) (K:V->Prop):Prop:=
 match x with
 | .tmp t=>(env.get t).force λv=>Ev v.plain (K v)
 | .cell x t=>match env.get x with
   | .Cd id off=>match assoc env.boxes id with
     |some cs=>DS cs off (assoc T t) λv=>K v
     |none=>False
   | .ptr b off=>∃cs,st.box b=some cs/\DS cs off (assoc T t) λv=>K v
   |_=>False
def Gm (env:Env) (st:St) (l:List ResultVar):(List V->Prop)->Prop:=
 List.rec (motive:=λ_=>(List V->Prop)->Prop) (λK=>K []) (λx _ ih K=>VV T env st x λv=>ih λvs=>K (v::vs)) l
theorem TA (env:Env) (st:St) (x:ResultVar) (r:List ResultVar) (K:List V->Prop):Gm T env st (x::r) K=VV T env st x λv=>Gm T env st r λvs=>K (v::vs):=rfl
def eT (fn:Func) (R:AD->St->Prop):AG->Env->St->Prop
 | .normal,env,st| .ret,env,st=>Gm T env st fn.results.toList λvs=>
   match vs with
   |[v]=>R (.ret v) st
   |vs=>R (.ret (.Bl vs)) st
 | .Ci v,_,st=>R (.Ci v) st
 |_,_,_=>False
noncomputable def KR (i:Nat) (l:List V):List (Nat×V):=
 List.rec (motive:=λ_=>Nat->List (Nat×V)) (λ_=>[]) (λv _ ih i=>(i,v)::ih (i+1)) l i
theorem aH (i:Nat) (v:V) (r:List V):KR i (v::r)=(i,v)::KR (i+1) r:=rfl
def U5 (fn:Func) (gl:List Nat) (args:List V) (st:St) (R:AD->St->Prop):Prop:=
 match fn.body with
 |some c=>Ev (Nat.ble args.length fn.ntmps) (Qx T C c (eT T fn R) {tmps:=KR 0 args,boxes:=[],BS:=0,sz:=fn.ntmps,gl} st)
 |none=>False
def AD.wk:AD->AD
 | .ret v=>.ret v.wk
 | .Ci v=>.Ci v.wk
end
structure gP (c:Nat->Nat->Option Value) (s:Nat->Option Nat):Prop where
 first:∀i,i<256->c 0 i=some (.int .u8 (Lib.firstT i))
 accept:∀i,i<16->c 1 (2*i)=some (.int .u8 (Lib.accLo i))/\c 1 (2*i+1)=some (.int .u8 (Lib.accHi i))
 maxLen:∃m,c 2 0=some (.int .i64 m)
 space:∀i,i<256->c 3 i=some (.int .u8 (Lib.asciiSpaceTab.getD i 0))
 oF:s 3=some 256
theorem Vv {c U:Nat->Nat->Option Value} {s s':Nat->Option Nat} (h:∀b o v,c b o=some v->U b o=some v) (k:∀b n,s b=some n->s' b=some n) (g:gP c s):gP U s':=
 ⟨λi hi=>h _ _ _ (g.first i hi),λi hi=>⟨h _ _ _ (g.accept i hi).1,h _ _ _ (g.accept i hi).2⟩,g.maxLen.imp λ_ e=>h _ _ _ e,λi hi=>h _ _ _ (g.space i hi),k _ _ g.oF⟩
structure Mem where
 cell:Nat->Nat->Option Value
 shape:Nat->Option Nat
def Mem.le (I J:Mem):Prop:=(∀b o v,I.cell b o=some v->J.cell b o=some v)/\∀b n,I.shape b=some n->J.shape b=some n
theorem Mem.le_refl (I:Mem):I.le I:=⟨λ_ _ _ h=>h,λ_ _ h=>h⟩
theorem Mem.le_trans {I J K:Mem} (h:I.le J) (k:J.le K):I.le K:=⟨λb o v x=>k.1 _ _ _ (h.1 _ _ _ x),λb n x=>k.2 _ _ (h.2 _ _ x)⟩
def Xp (I:Mem) (sz len cap:Nat) (a:Option Addr):Ay->Prop
 | .any=>True
 | .full=>cap=len
 | .tok b=>a=some ⟨b,0,none⟩/\I.shape b=some (cap*sz)
mutual
def A0 (I:Mem):V->Value->Prop
 | .Cc,_=>True
 | .bool b,c=>c=.bool b
 | .int k n,c=>c=.int k n
 | .str s,c=>c=.string ⟨s.toArray⟩/\s.length<Fk
 | .agg cs,c=>∃vs:List Value,c=.agg vs.toArray/\Ar I cs vs
 | .Bl cs,c=>∃vs:List Value,c=.tuple vs.toArray/\Ar I cs vs
 | .slice sz es own,c=>∃a cap,c=.slice a es.length cap/\es.length<=cap/\es.length<Fk/\0<sz/\Xp I sz es.length cap a own/\
    (match a with|none=>cap=0|some U=>(cap=0\/U.spot=none)/\CQ I sz U.block U.off es)
 | .ptr b off,c=>c=.pointer (some ⟨b,off,none⟩)
 | .Cd _ _,_=>False
 | .HK e off,c=>∃b o,c=.pointer (some ⟨b,o+off,none⟩)/\Hn I b o e
 | .GK,c=>c=.pointer none
 | .func f a cap,c=>∃az cs:List Value,c=.func (.func f) az.toArray cs.toArray/\Ar I a az/\Ar I cap cs
 | .AM,c=>c=.nilFunc
 | .iface t v,c=>∃c',c=.iface t c'/\A0 I v c'
 | .Ht,c=>c=.nilIface
 | .Qo _ _,_=>False
 | .Eg sz b n cap,c=>c=.slice (some ⟨b,0,none⟩) n cap/\n<=cap/\n<Fk/\0<sz
 | .jU l,c=>c=.func (.yield l) #[] #[]
def Ar (I:Mem):List V->List Value->Prop
 |[],vs=>vs=[]
 |v::r,vs=>∃c s,vs=c::s/\A0 I v c/\Ar I r s
def Hn (I:Mem) (b o:Nat):List V->Prop
 |[]=>True
 |v::r=>(∃c,I.cell b o=some c/\A0 I v c)/\Hn I b (o+1) r
def CQ (I:Mem) (sz b o:Nat):List (List V)->Prop
 |[]=>True
 |e::r=>(e.length=sz/\Hn I b o e)/\CQ I sz b (o+sz) r
end
theorem Xp.mono {I J:Mem} (h:I.le J) {sz len cap:Nat} {a:Option Addr} {own:Ay} (k:Xp I sz len cap a own):Xp J sz len cap a own:=by
 cases own with
 |any=>trivial
 |full=>exact k
 |tok b=>exact ⟨k.1,h.2 _ _ k.2⟩
mutual
theorem A0.mono {I J:Mem} (h:I.le J):∀(v:V) (c:Value),A0 I v c->A0 J v c
 | .Cc,_,_=>by simp only [A0]
 | .bool b,c,k=>by simpa only [A0] using k
 | .int _ n,c,k=>by simpa only [A0] using k
 | .str s,c,k=>by simpa only [A0] using k
 | .agg cs,c,k=>by
   simp only [A0] at k |-
   obtain ⟨vs,e,k⟩:=k
   exact ⟨vs,e,Ar.mono h cs vs k⟩
 | .Bl cs,c,k=>by
   simp only [A0] at k |-
   obtain ⟨vs,e,k⟩:=k
   exact ⟨vs,e,Ar.mono h cs vs k⟩
 | .slice sz es own,c,k=>by
   simp only [A0] at k |-
   obtain ⟨a,cap,e,h1,h2,h3,h4,U⟩:=k
   refine ⟨a,cap,e,h1,h2,h3,h4.mono h,?_⟩
   cases a with
   |none=>exact U
   |some ad=>exact ⟨U.1,CQ.mono h sz ad.block es ad.off U.2⟩
 | .ptr _ _,c,k=>by simpa only [A0] using k
 | .Cd _ _,c,k=>by simp only [A0] at k
 | .HK e off,c,k=>by
   simp only [A0] at k |-
   obtain ⟨b,o,e1,k⟩:=k
   exact ⟨b,o,e1,Hn.mono h b e o k⟩
 | .GK,c,k=>by simpa only [A0] using k
 | .func f a cap,c,k=>by
   simp only [A0] at k |-
   obtain ⟨az,cs,e,k1,k2⟩:=k
   exact ⟨az,cs,e,Ar.mono h a az k1,Ar.mono h cap cs k2⟩
 | .AM,c,k=>by simpa only [A0] using k
 | .iface t v,c,k=>by
   simp only [A0] at k |-
   obtain ⟨c',e,k⟩:=k
   exact ⟨c',e,A0.mono h v c' k⟩
 | .Ht,c,k=>by simpa only [A0] using k
 | .Qo _ _,c,k=>by simp only [A0] at k
 | .Eg _ _ _ _,c,k=>by simpa only [A0] using k
 | .jU _,c,k=>by simpa only [A0] using k
theorem Ar.mono {I J:Mem} (h:I.le J):∀(l:List V) (vs:List Value),Ar I l vs->Ar J l vs
 |[],vs,k=>by simpa only [Ar] using k
 |v::r,vs,k=>by
  simp only [Ar] at k |-
  obtain ⟨c,s,e,U,k2⟩:=k
  exact ⟨c,s,e,A0.mono h v c U,Ar.mono h r s k2⟩
theorem Hn.mono {I J:Mem} (h:I.le J) (b:Nat):∀(l:List V) (o:Nat),Hn I b o l->Hn J b o l
 |[],o,k=>by simp only [Hn]
 |v::r,o,k=>by
  simp only [Hn] at k |-
  obtain ⟨⟨c,U,k2⟩,k3⟩:=k
  exact ⟨⟨c,h.1 _ _ _ U,A0.mono h v c k2⟩,Hn.mono h b r (o+1) k3⟩
theorem CQ.mono {I J:Mem} (h:I.le J) (sz b:Nat):∀(l:List (List V)) (o:Nat),CQ I sz b o l->CQ J sz b o l
 |[],o,k=>by simp only [CQ]
 |v::r,o,k=>by
  simp only [CQ] at k |-
  exact ⟨⟨k.1.1,Hn.mono h b v o k.1.2⟩,CQ.mono h sz b r (o+sz) k.2⟩
end
theorem A0.K8 {I:Mem}:∀{v:V} {c:Value},A0 I v c->A0 I v.K8 c
 | .slice sz es own,c,k=>by
   simp only [V.K8,A0] at k |-
   obtain ⟨a,cap,e,U,h2,h3,h4,h5⟩:=k
   exact ⟨a,cap,e,U,h2,h3,trivial,h5⟩
 | .Cc,_,k| .bool _,_,k| .int _ _,_,k| .str _,_,k| .agg _,_,k| .Bl _,_,k| .ptr _ _,_,k| .Cd _ _,_,k| .HK _ _,_,k| .GK,_,k
 | .func _ _ _,_,k| .AM,_,k| .iface _ _,_,k| .Ht,_,k| .Qo _ _,_,k| .Eg _ _ _ _,_,k| .jU _,_,k=>k
theorem Ar.map {I:Mem} {f:V->V} (hf:∀v c,A0 I v c->A0 I (f v) c):∀{l:List V} {vs:List Value},Ar I l vs->Ar I (l.map f) vs
 |[],vs,k=>by simp_all
 |v::r,vs,k=>by
  simp only [Ar,List.map_cons] at k |-
  obtain ⟨c,s,e,U,k2⟩:=k
  exact ⟨c,s,e,hf v c U,Ar.map hf k2⟩
theorem A0.xk {I:Mem} {v:V} {c:Value} (k:A0 I v c):A0 I v.xk c:=by
 cases v with
 |agg cs=>
  simp only [V.xk,A0] at k |-
  obtain ⟨vs,e,k⟩:=k
  exact ⟨vs,e,Ar.map (λ_ _=>A0.K8) k⟩
 |slice sz es own=>exact A0.K8 k
 |_=>exact k
theorem A0.wk {I:Mem} {v:V} {c:Value} (k:A0 I v c):A0 I v.wk c:=by
 cases v with
 |agg cs=>exact A0.xk k
 |Bl cs=>
  simp only [V.wk,A0] at k |-
  obtain ⟨vs,e,k⟩:=k
  exact ⟨vs,e,Ar.map (λ_ _=>A0.xk) k⟩
 |slice sz es own=>exact A0.K8 k
 |_=>exact k
theorem Ar.length {I:Mem}:∀{l:List V} {vs:List Value},Ar I l vs->l.length=vs.length
 |[],vs,k=>by simp only [Ar] at k;simp_all
 |v::r,vs,k=>by
  simp only [Ar] at k
  obtain ⟨c,s,e,k1,U⟩:=k
  subst e
  simp [Ar.length U]
theorem Ar.get {I:Mem}:∀{l:List V} {vs:List Value} {i:Nat} {v:V},Ar I l vs->l[i]? =some v->∃c,vs[i]? =some c/\A0 I v c
 |[],vs,i,v,k,h=>by simp at h
 |u::r,vs,i,v,k,h=>by
  simp only [Ar] at k
  obtain ⟨c,s,e,k1,U⟩:=k
  subst e
  cases i with
  |zero=>simp_all
  |succ i=>simp at h;obtain ⟨c',h1,h2⟩:=Ar.get U h;simp_all
theorem Ar.append {I:Mem}:∀{l r:List V} {vs us:List Value},Ar I l vs->Ar I r us->Ar I (l++r) (vs++us)
 |[],r,vs,us,k,h=>by simp only [Ar] at k;simp_all
 |v::l,r,vs,us,k,h=>by
  simp only [Ar] at k
  obtain ⟨c,s,e,U,k2⟩:=k
  subst e
  simp only [List.cons_append,Ar]
  exact ⟨c,s++us,rfl,U,Ar.append k2 h⟩
theorem Ar.take {I:Mem}:∀{l:List V} {vs:List Value} (n:Nat),Ar I l vs->Ar I (l.take n) (vs.take n)
 |[],vs,n,k=>by simp only [Ar] at k;subst k;simp [Ar]
 |v::l,vs,0,k=>by rfl
 |v::l,vs,n+1,k=>by
  simp only [Ar] at k
  obtain ⟨c,s,e,U,k2⟩:=k
  subst e
  simp only [List.take_succ_cons,Ar]
  exact ⟨c,_,rfl,U,Ar.take n k2⟩
theorem Ar.drop {I:Mem}:∀{l:List V} {vs:List Value} (n:Nat),Ar I l vs->Ar I (l.drop n) (vs.drop n)
 |[],vs,n,k=>by simp only [Ar] at k;subst k;simp [Ar]
 |v::l,vs,0,k=>by simp_all
 |v::l,vs,n+1,k=>by
  simp only [Ar] at k
  obtain ⟨c,s,e,k1,U⟩:=k
  subst e
  simpa using Ar.drop n U
theorem CQ.get {I:Mem} {sz b:Nat}:∀{l:List (List V)} {o i:Nat} {e:List V},CQ I sz b o l->l[i]? =some e->e.length=sz/\Hn I b (o+i*sz) e
 |[],o,i,v,k,h=>by simp at h
 |u::r,o,i,v,k,h=>by
  simp only [CQ] at k
  cases i with
  |zero=>simp_all
  |succ i=>
   simp at h
   have:=CQ.get k.2 h
   grind
theorem CQ.drop {I:Mem} {sz b:Nat}:∀{l:List (List V)} {o:Nat} (n:Nat),CQ I sz b o l->CQ I sz b (o+n*sz) (l.drop n)
 |[],o,n,k=>by simp [CQ]
 |v::l,o,0,k=>by simp_all
 |v::l,o,n+1,k=>by
  simp only [CQ] at k
  rw [show o+(n+1)*sz=o+sz+n*sz by grind]
  simpa using CQ.drop n k.2
theorem CQ.take {I:Mem} {sz b:Nat}:∀{l:List (List V)} {o:Nat} (n:Nat),CQ I sz b o l->CQ I sz b o (l.take n)
 |[],o,n,k=>by grind
 |v::l,o,0,k=>by simp [CQ]
 |v::l,o,n+1,k=>by
  simp only [CQ,List.take_succ_cons] at k |-
  exact ⟨k.1,CQ.take n k.2⟩
theorem CQ.append {I:Mem} {sz b:Nat}:∀{l r:List (List V)} {o:Nat},CQ I sz b o l->CQ I sz b (o+l.length*sz) r->CQ I sz b o (l++r)
 |[],r,o,k,h=>by simp_all
 |v::l,r,o,k,h=>by
  simp only [CQ,List.cons_append] at k |-
  refine ⟨k.1,CQ.append k.2 ?_⟩
  grind
def Bg (I:Mem) (β:Nat->Option Nat):V->Value->Prop
 | .Cd id off,c=>∃b,β id=some b/\c=.pointer (some ⟨b,off,none⟩)
 |v,c=>A0 I v c
theorem Bg.of {I:Mem} {β:Nat->Option Nat} {v:V} {c:Value} (h:A0 I v c):Bg I β v c:=by
 cases v<;>first|exact h|exact (by simp only [A0] at h)
theorem Bg.mono {I J:Mem} (h:I.le J) {β:Nat->Option Nat} {v:V} {c:Value} (k:Bg I β v c):Bg J β v c:=by
 cases v<;>first|exact k|exact A0.mono h _ _ k
structure Db (I:Mem) (st:St) (w:World):Prop where
 cell:∀b o v,I.cell b o=some v->w.cell? ⟨b,o,none⟩=some v
 shape:∀b n,I.shape b=some n->∃c ty,w.heap[b]? =some (.cells c ty (0,0))/\c.size=n
 box:∀b cs,st.box b=some cs->∃(vs:List Value) (ty:TypeId),w.heap[b]? =some (.cells vs.toArray ty (0,0))/\Ar I cs vs
 Jh:∀b,st.box b≠none->(∀o,I.cell b o=none)/\st.hw b=none/\I.shape b=none
 hw:∀b h,st.hw b=some h->b<w.heap.size/\∀o,h<=o->I.cell b o=none
 UE:gP I.cell I.shape
structure Fr (I0:Mem) (st0:St) (w0:World) (I:Mem) (st:St) (w:World):Prop where
 os:w.os=w0.os
 tape:w.tape=w0.tape
 output:w.output=w0.output
 size:w0.heap.size<=w.heap.size
 NB:∀b,b<w0.heap.size->st0.box b=none->st0.hw b=none->w.heap[b]? =w0.heap[b]?
 le:I0.le I
 new:∀b o,I0.cell b o=none->I.cell b o≠none->w0.heap.size<=b\/st0.box b≠none\/st0.hw b≠none
 My:∀b,I0.shape b=none->I.shape b≠none->w0.heap.size<=b\/st0.box b≠none\/st0.hw b≠none
 Mv:∀b,(st.box b≠none\/st.hw b≠none)->w0.heap.size<=b\/st0.box b≠none\/st0.hw b≠none
theorem Fr.refl {I:Mem} {st:St} {w:World}:Fr I st w I st w:=
 ⟨rfl,rfl,rfl,Nat.le_refl _,λ_ _ _ _=>rfl,Mem.le_refl _,λ_ _ h k=>absurd h k,λ_ h k=>absurd h k,λ_ h=>.inr h⟩
theorem Fr.trans {I0 I1 I2:Mem} {s0 s1 s2:St} {w0 w1 w2:World} (h:Fr I0 s0 w0 I1 s1 w1) (k:Fr I1 s1 w1 I2 s2 w2):Fr I0 s0 w0 I2 s2 w2:=by
 refine ⟨k.os.trans h.os,k.tape.trans h.tape,k.output.trans h.output,Nat.le_trans h.size k.size,?_,Mem.le_trans h.le k.le,?_,?_,?_⟩
 .intro b hb h1 h2
  have e1:s1.box b=none:=by
   cases hh:s1.box b with
   |none=>rfl
   |some c=>rcases h.Mv b (.inl (by rw [hh];simp)) with h|h|h<;>first|omega|contradiction
  have e2:s1.hw b=none:=by
   cases hh:s1.hw b with
   |none=>rfl
   |some c=>rcases h.Mv b (.inr (by rw [hh];simp)) with h|h|h<;>first|omega|contradiction
  rw [k.NB b (Nat.lt_of_lt_of_le hb h.size) e1 e2,h.NB b hb h1 h2]
 .intro b o h1 h2
  cases hh:I1.cell b o with
  |some v=>exact h.new b o h1 lm
  |none=>
   rcases k.new b o hh h2 with U|U|U
   .exact .inl (Nat.le_trans h.size U)
   .exact h.Mv b (.inl U)
   .exact h.Mv b (.inr U)
 .intro b h1 h2
  cases hh:I1.shape b with
  |some v=>exact h.My b h1 lm
  |none=>
   rcases k.My b hh h2 with U|U|U
   .exact .inl (Nat.le_trans h.size U)
   .exact h.Mv b (.inl U)
   .exact h.Mv b (.inr U)
 .intro b hb
  rcases k.Mv b hb with U|U|U
  .exact .inl (Nat.le_trans h.size U)
  .exact h.Mv b (.inl U)
  .exact h.Mv b (.inr U)
theorem MH {cs:List V} {off:Nat} {ty:Option Ty} {K:V->Prop} (h:DS cs off ty K):Qn cs=true:=(AE.1 h).1
theorem W5 {cs new:List V} {off:Nat} {K:List V->Prop} (h:GC cs off new K):Qn cs=true:=(AE.1 h).1
def Laid (I:Mem) (o:Option Obj) (cs:List V):Prop:=
 (∃(vs:List Value) (ty:TypeId),o=some (.cells vs.toArray ty (0,0))/\Ar I cs vs)\/∃(s:List UInt8) (pos:Nat),cs=[.Qo s pos]/\s.length<Fk/\o=some (.stringIter ⟨s.toArray⟩ pos)
theorem Laid.mono {I J:Mem} {o:Option Obj} {cs:List V} (h:Laid I o cs) (hl:I.le J):Laid J o cs:=by
 rcases h with ⟨vs,ty,U,h2⟩|h
 .exact .inl ⟨vs,ty,U,Ar.mono hl _ _ h2⟩
 .exact .inr h
theorem Laid.cells {I:Mem} {o:Option Obj} {cs:List V} (h:Laid I o cs) (hn:Qn cs=true):∃(vs:List Value) (ty:TypeId),o=some (.cells vs.toArray ty (0,0))/\Ar I cs vs:=by
 rcases h with h|⟨s,pos,rfl,_⟩
 .exact h
 .cases hn
structure Je (D:List Deferred) (B:Nat) (I:Mem) (β:Nat->Option Nat) (env:Env) (st:St) (a:Act) (w:World):Prop where
 size:a.tmps.size=env.sz
 tmps:∀t v,assoc env.tmps t=some v->Bg I β v (a.tmps.getD t undef)
 box:∀id cs,assoc env.boxes id=some cs->∃b:Nat,β id=some b/\Laid I w.heap[b]? cs
 BS:∀id b,β id=some b->id<env.BS
 inj:∀i j b,β i=some b->β j=some b->i=j
 sep:∀id b,β id=some b->B<=b/\b<w.heap.size/\(∀o,I.cell b o=none)/\I.shape b=none/\st.box b=none/\st.hw b=none
 defers:a.defers=D
structure Rel (D:List Deferred) (I0:Mem) (st0:St) (w0:World) (I:Mem) (β:Nat->Option Nat) (env:Env) (st:St) (a:Act) (w:World):Prop where
 fr:Fr I0 st0 w0 I st w
 s:Db I st w
 f:Je D w0.heap.size I β env st a w
section
variable {D:List Deferred} {I0 I:Mem} {st0 st:St} {w0 w w':World} {β:Nat->Option Nat} {env:Env} {a:Act}
structure Jd (w w':World):Prop where
 os:w'.os=w.os
 tape:w'.tape=w.tape
 output:w'.output=w.output
 size:w.heap.size<=w'.heap.size
 NB:∀b,b<w.heap.size->w'.heap[b]? =w.heap[b]?
theorem Jd.drew (w:World):Jd w w.drew:=⟨rfl,rfl,rfl,Nat.le_refl _,λ_ _=>rfl⟩
theorem Jd.alloc (w:World) (o:Obj):Jd w (w.alloc o):=
 ⟨rfl,rfl,rfl,Pi,λb hb=>by simp only [World.alloc,Array.getElem?_push];grind⟩
theorem Ij {w:World} {b:Nat} {o:Obj} (h:w.heap[b]? =some o):b<w.heap.size:=GT
theorem Nf {w:World} {b o:Nat} {v:Value} (h:w.cell? ⟨b,o,none⟩=some v):b<w.heap.size:=World.block_lt_of_cell? _ _ h
theorem HI {w w':World} {b o:Nat} (h:w'.heap[b]? =w.heap[b]?):w'.cell? ⟨b,o,none⟩=w.cell? ⟨b,o,none⟩:=by
 simp only [World.cell?,h]
theorem Db.Kx (h:Db I st w) (g:Jd w w'):Db I st w' where
 cell b o v k:=by have:=h.cell b o v k;rw [HI (g.NB b (Nf this))];omega
 shape b n k:=by obtain ⟨c,ty,U,h2⟩:=h.shape b n k;exact ⟨c,ty,by rw [g.NB b (Ij U)];exact U,h2⟩
 box b cs k:=by obtain ⟨vs,ty,U,h2⟩:=h.box b cs k;exact ⟨vs,ty,by rw [g.NB b (Ij U)];exact U,h2⟩
 Jh:=h.Jh
 hw b n k:=⟨Nat.lt_of_lt_of_le (h.hw b n k).1 g.size,(h.hw b n k).2⟩
 UE:=h.UE
theorem Fr.Kx (h:Fr I0 st0 w0 I st w) (g:Jd w w'):Fr I0 st0 w0 I st w' where
 os:=g.os.trans h.os
 tape:=g.tape.trans h.tape
 output:=g.output.trans h.output
 size:=Nat.le_trans h.size g.size
 NB b hb U h2:=(g.NB b (Nat.lt_of_lt_of_le hb h.size)).trans (h.NB b hb U h2)
 le:=h.le
 new:=h.new
 My:=h.My
 Mv:=h.Mv
theorem Je.Kx {B:Nat} (h:Je D B I β env st a w) (g:Jd w w'):Je D B I β env st a w' where
 size:=h.size
 tmps:=h.tmps
 box id cs k:=by obtain ⟨b,U,h1⟩:=h.box id cs k;exact ⟨b,U,by rw [g.NB b (h.sep id b U).2.1];exact h1⟩
 BS:=h.BS
 inj:=h.inj
 sep id b k:=⟨(h.sep id b k).1,Nat.lt_of_lt_of_le (h.sep id b k).2.1 g.size,(h.sep id b k).2.2⟩
 defers:=h.defers
theorem Rel.Kx (h:Rel D I0 st0 w0 I β env st a w) (g:Jd w w'):Rel D I0 st0 w0 I β env st a w':=⟨h.fr.Kx g,h.s.Kx g,h.f.Kx g⟩
theorem heap_alloc_new (w:World) (o:Obj):(w.alloc o).heap[w.heap.size]? =some o:=by
 simp only [World.alloc,Array.getElem?_push,if_true]
theorem uE (h:Db I st w) {b:Nat} (k:st.box b≠none\/st.hw b≠none):b<w.heap.size:=by
 rcases k with k|k
 .cases hb:st.box b with
  |none=>simp_all
  |some cs=>obtain ⟨vs,ty,U,_⟩:=h.box b cs hb;grind
 .cases hb:st.hw b with
  |none=>simp_all
  |some n=>exact (h.hw b n hb).1
theorem Eb (h:Db I st w):st.fresh w.heap.size:=by
 constructor
 .cases hb:st.box w.heap.size with
  |none=>rfl
  |some cs=>exact absurd (uE h (.inl lm)) (Nat.lt_irrefl _)
 .cases hb:st.hw w.heap.size with
  |none=>rfl
  |some cs=>exact absurd (uE h (.inr lm)) (Nat.lt_irrefl _)
theorem Lg (h:Db I st w) (o:Nat):I.cell w.heap.size o=none:=by
 cases hb:I.cell w.heap.size o with
 |none=>rfl
 |some v=>exact absurd (Nf (h.cell _ _ _ hb)) (Nat.lt_irrefl _)
theorem Mk (h:Db I st w):I.shape w.heap.size=none:=by
 cases hb:I.shape w.heap.size with
 |none=>rfl
 |some v=>obtain ⟨c,ty,U,_⟩:=h.shape _ _ hb;simp_all
theorem Rel.Yo (h:Rel D I0 st0 w0 I β env st a w) {cs:List V} {ob:Obj} (k:Laid I (some ob) cs) {x n:Nat} (hx:β x=none) (hn:x<n) (hle:env.BS<=n):
 Rel D I0 st0 w0 I (λi=>if i=x then some w.heap.size else β i) {env with boxes:=(x,cs)::env.boxes,BS:=n} st a (w.alloc ob):=by
 have g:=Jd.alloc w ob
 have h':=h.Kx g
 have hne:∀id b,β id=some b->id≠x:=λid b e=>by grind
 refine ⟨h'.fr,h'.s,{h'.f with tmps:=?_,box:=?_,BS:=?_,inj:=?_,sep:=?_}⟩
 .intro t v e
  have:=h.f.tmps t v e
  cases v<;>first
   |exact this
   |(obtain ⟨b,h1,h2⟩:=this;exact ⟨b,(if_neg (hne _ _ h1)).trans h1,h2⟩)
 .intro id cs' e
  rw [BF] at e
  cases hb:Nat.beq x id with
  |true=>
   rw [hb] at e
   have:=Nat.eq_of_beq_eq_true hb
   subst this
   simp only [cond_true,Option.some.injEq] at e
   subst e
   exact ⟨_,if_pos rfl,by rw [heap_alloc_new w _];exact k⟩
  |false=>
   rw [hb] at e
   obtain ⟨b,h1,h2⟩:=h'.f.box id cs' e
   simp_all
 .intro id b e
  split at e
  .simp_all
  .exact Nat.lt_of_lt_of_le (h.f.BS id b e) hle
 .intro i j b U e2
  split at U<;>split at e2
  .omega
  .injection U with U;subst U;exact absurd (h.f.sep _ _ e2).2.1 (Nat.lt_irrefl _)
  .injection e2 with e2;subst e2;exact absurd (h.f.sep _ _ U).2.1 (Nat.lt_irrefl _)
  .exact h.f.inj i j b U e2
 .intro id b e
  split at e
  .injection e with e
   subst e
   exact ⟨h.fr.size,Pi,Lg h.s,Mk h.s,(Eb h.s).1,(Eb h.s).2⟩
  .exact h'.f.sep id b e
theorem Rel.bK (h:Rel D I0 st0 w0 I β env st a w) {cs:List V} {vs:List Value} (k:Ar I cs vs) (ty:TypeId) {x n:Nat} (U:β x=none) (hn:x<n) (hle:env.BS<=n):
 Rel D I0 st0 w0 I (λi=>if i=x then some w.heap.size else β i) {env with boxes:=(x,cs)::env.boxes,BS:=n} st a (w.alloc (.cells vs.toArray ty)):=h.Yo (.inl ⟨vs,ty,rfl,k⟩) U hn hle
theorem Rel.mB (h:Rel D I0 st0 w0 I β env st a w) {cs:List V} {vs:List Value} (k:Ar I cs vs) (ty:TypeId):
 Rel D I0 st0 w0 I (λi=>if i=env.BS then some w.heap.size else β i) {env with boxes:=(env.BS,cs)::env.boxes,BS:=env.BS+1} st a (w.alloc (.cells vs.toArray ty)):=
 h.bK k ty (by
  cases e:β env.BS with
  |none=>rfl
  |some b=>exact absurd (h.f.BS _ _ e) (Nat.lt_irrefl _)) (Nat.lt_succ_self _) (Nat.le_succ _)
theorem Rel.L6 (h:Rel D I0 st0 w0 I β env st a w) {cs:List V} {vs:List Value} (k:Ar I cs vs) (ty:TypeId):
 Rel D I0 st0 w0 I β env (st.Ab w.heap.size cs) a (w.alloc (.cells vs.toArray ty)):=by
 have g:=Jd.alloc w (.cells vs.toArray ty)
 have U:=h.Kx g
 refine ⟨{U.fr with Mv:=?_},{U.s with box:=?_,Jh:=?_},{U.f with sep:=?_}⟩
 .intro b hb
  by_cases e:b=w.heap.size
  .exact .inl (by rw [e];exact h.fr.size)
  .refine h.fr.Mv b ?_
   simpa [St.Ab,e] using hb
 .intro b cs' e
  simp only [St.Ab] at e
  split at e
  .rename_i hb;subst hb;injection e with e;subst e;exact ⟨vs,ty,heap_alloc_new w _,k⟩
  .exact U.s.box b cs' e
 .intro b e
  by_cases hb:b=w.heap.size
  .subst hb;exact ⟨Lg h.s,(Eb h.s).2,Mk h.s⟩
  .exact h.s.Jh b (by simpa [St.Ab,hb] using e)
 .intro id b e
  obtain ⟨h1,h2,h3,h4,h5,h6⟩:=h.f.sep id b e
  have:b≠w.heap.size:=H1
  exact ⟨h1,i6,h3,h4,by simp [St.Ab,this,h5],h6⟩
def Mem.add (I:Mem) (b h:Nat) (vs:List Value) (n:Nat):Mem where
 cell:=λx o=>if x=b/\h<=o/\o<h+vs.length then vs[o - h]? else I.cell x o
 shape:=λx=>if x=b then some n else I.shape x
theorem Mem.Sp {I:Mem} {b h n:Nat} {vs:List Value} (k:∀o,h<=o->I.cell b o=none) (U:I.shape b=none\/I.shape b=some n):I.le (I.add b h vs n):=by
 constructor
 .intro x o v e
  simp only [Mem.add]
  grind
 .intro x m e
  simp only [Mem.add]
  grind
theorem Hn.add {I:Mem} {b h n:Nat} {vs:List Value}:∀(l:List V) (us:List Value) (o:Nat),Ar I l us->I.le (I.add b h vs n)->
 (∀j c,us[j]? =some c->(I.add b h vs n).cell b (o+j)=some c)->Hn (I.add b h vs n) b o l
 |[],us,o,k,U,hc=>by simp only [Hn]
 |v::r,us,o,k,U,hc=>by
  simp only [Ar] at k
  obtain ⟨c,s,e,k1,k2⟩:=k
  subst e
  simp only [Hn]
  refine ⟨⟨c,by simpa using hc 0 c Pi,A0.mono U _ _ k1⟩,Hn.add r s (o+1) k2 U λj c' hj=>?_⟩
  have:=hc (j+1) c' lm
  grind
def CO (I:Mem) (sz:Nat):List (List V)->List Value->Prop
 |[],vs=>vs=[]
 |e::r,vs=>∃us s,vs=us++s/\e.length=sz/\Ar I e us/\CO I sz r s
theorem CO.length {I:Mem} {sz:Nat}:∀{l:List (List V)} {vs:List Value},CO I sz l vs->vs.length=l.length*sz
 |[],vs,k=>by simp only [CO] at k;simp_all
 |e::r,vs,k=>by
  simp only [CO] at k
  obtain ⟨us,s,U,h1,h2,h3⟩:=k
  subst U
  rw [List.length_append,<-Ar.length h2,h1,CO.length h3,List.length_cons,Nat.add_mul];omega
theorem CQ.add {I:Mem} {b h n sz:Nat} {vs:List Value}:∀(l:List (List V)) (us:List Value) (o:Nat),CO I sz l us->I.le (I.add b h vs n)->
 (∀j c,us[j]? =some c->(I.add b h vs n).cell b (o+j)=some c)->CQ (I.add b h vs n) sz b o l
 |[],us,o,k,U,hc=>by simp only [CQ]
 |e::r,us,o,k,U,hc=>by
  simp only [CO] at k
  obtain ⟨u1,s,e1,h1,h2,h3⟩:=k
  subst e1
  have hu:u1.length=sz:=by rw [<-Ar.length h2,h1]
  simp only [CQ]
  refine ⟨⟨h1,Hn.add e u1 o h2 U λj c hj=>hc j c ?_⟩,CQ.add r s (o+sz) h3 U λj c hj=>?_⟩
  .grind
  .have:=hc (sz+j) c GT
   grind
theorem Mem.Rk {I:Mem} {b h n:Nat} {vs:List Value} {j:Nat} {c:Value} (hj:vs[j]? =some c):(I.add b h vs n).cell b (h+j)=some c:=by
 have U:j<vs.length:=by
  rcases Nat.lt_or_ge j vs.length with h|h
  .exact h
  .simp_all
 show (if b=b/\h<=h+j/\h+j<h+vs.length then vs[h+j - h]? else I.cell b (h+j))=some c
 simp_all
theorem Je.mem {B:Nat} {J:Mem} {st':St} (h:Je D B I β env st a w) (U:I.le J)
 (hs:∀id b,β id=some b->(∀o,J.cell b o=none)/\J.shape b=none/\st'.box b=none/\st'.hw b=none):Je D B J β env st' a w where
 size:=h.size
 tmps t v e:=(h.tmps t v e).mono U
 box id cs e:=by obtain ⟨b,h1,h2⟩:=h.box id cs e;exact ⟨b,h1,h2.mono U⟩
 BS:=h.BS
 inj:=h.inj
 sep id b e:=⟨(h.sep id b e).1,(h.sep id b e).2.1,hs id b e⟩
 defers:=h.defers
theorem Rel.newRow (h:Rel D I0 st0 w0 I β env st a w) (vs rest:List Value) (ty:TypeId):
 Rel D I0 st0 w0 (I.add w.heap.size 0 vs (vs.length+rest.length)) β env (st.Cw w.heap.size vs.length) a (w.alloc (.cells (vs++rest).toArray ty)):=by
 have g:=Jd.alloc w (.cells (vs++rest).toArray ty)
 have h':=h.Kx g
 have hl:I.le (I.add w.heap.size 0 vs (vs.length+rest.length)):=Mem.Sp (λo _=>Lg h.s o) (.inl (Mk h.s))
 refine ⟨{h'.fr with le:=Mem.le_trans h.fr.le hl,new:=?_,My:=?_,Mv:=?_},⟨?_,?_,?_,?_,?_,Vv hl.1 hl.2 h.s.UE⟩,Je.mem h'.f hl ?_⟩
 .intro b o h1 h2
  by_cases e:b=w.heap.size
  .exact .inl (by rw [e];exact h.fr.size)
  .exact h.fr.new b o h1 (by simpa [Mem.add,e] using h2)
 .intro b h1 h2
  by_cases e:b=w.heap.size
  .exact .inl (by rw [e];exact h.fr.size)
  .exact h.fr.My b h1 (by simpa [Mem.add,e] using h2)
 .intro b hb
  by_cases e:b=w.heap.size
  .exact .inl (by rw [e];exact h.fr.size)
  .refine h.fr.Mv b ?_
   simpa [St.Cw,e] using hb
 .intro b o v e
  simp only [Mem.add] at e
  split at e
  .rename_i hb
   obtain ⟨rfl,h1,h2⟩:=hb
   simp only [World.cell?,heap_alloc_new]
   grind
  .exact h'.s.cell b o v e
 .intro b n e
  simp only [Mem.add] at e
  split at e
  .rename_i hb;subst hb;injection e with e;subst e;exact ⟨_,ty,heap_alloc_new w _,Pi⟩
  .exact h'.s.shape b n e
 .intro b cs e
  obtain ⟨us,ty',h1,h2⟩:=h'.s.box b cs e
  exact ⟨us,ty',h1,Ar.mono hl _ _ h2⟩
 .intro b e
  have U:b≠w.heap.size:=λhb=>e (by rw [hb];exact (Eb h.s).1)
  obtain ⟨h1,h2,h3⟩:=h.s.Jh b e
  exact ⟨λo=>by simp [Mem.add,U,h1 o],by simp [St.Cw,U,h2],by simp [Mem.add,U,h3]⟩
 .intro b n e
  simp only [St.Cw] at e
  split at e
  .rename_i hb
   subst hb
   injection e with e
   subst e
   exact ⟨Pi,λo ho=>by simp only [Mem.add];rw [if_neg H1];exact Lg h.s o⟩
  .rename_i hb
   exact ⟨(h'.s.hw b n e).1,λo ho=>by simp only [Mem.add];rw [if_neg (by simp [hb])];exact (h'.s.hw b n e).2 o ho⟩
 .intro id b e
  obtain ⟨h1,h2,h3,h4,h5,h6⟩:=h.f.sep id b e
  have U:b≠w.heap.size:=H1
  exact ⟨λo=>by simp [Mem.add,U,h3 o],by simp [Mem.add,U,h4],h5,by simp [St.Cw,U,h6]⟩
theorem Rel.Iw {st':St} (h:Rel D I0 st0 w0 I β env st a w) (k:st'.le st):Rel D I0 st0 w0 I β env st' a w:=by
 have hb:∀b,st'.box b≠none->st.box b≠none:=λb e=>by
  cases U:st'.box b with
  |none=>simp_all
  |some c=>rw [k.1 b c U];simp
 have U:∀b,st'.hw b≠none->st.hw b≠none:=λb e=>by
  cases U:st'.hw b with
  |none=>simp_all
  |some c=>rw [k.2 b c U];simp
 have nb:∀b,st.box b=none->st'.box b=none:=λb e=>by grind
 have nh:∀b,st.hw b=none->st'.hw b=none:=λb e=>by grind
 refine ⟨{h.fr with Mv:=λb e=>h.fr.Mv b (e.imp (hb b) (U b))},{h.s with box:=λb cs e=>h.s.box b cs (k.1 b cs e),Jh:=λb e=>?_,hw:=λb n e=>h.s.hw b n (k.2 b n e)},
  {h.f with sep:=λid b e=>?_}⟩
 .obtain ⟨h1,h2,h3⟩:=h.s.Jh b (hb b e);simp_all
 .obtain ⟨h1,h2,h3,h4,h5,h6⟩:=h.f.sep id b e;simp_all
theorem Rel.JF {env':Env} (h:Rel D I0 st0 w0 I β env st a w) (k:env'.le env):
 Rel D I0 st0 w0 I (λid=>if (assoc env'.boxes id).isSome then β id else none) env' st a w:=by
 obtain ⟨k1,k2,k3,k4⟩:=k
 refine ⟨h.fr,h.s,⟨h.f.size.trans k1.symm,?_,?_,?_,?_,?_,h.f.defers⟩⟩
 .intro t v e
  rcases k2 t v e with rfl|⟨h1,h2⟩
  .exact Bg.of (v:=.Cc) (by simp only [A0])
  .have:=h.f.tmps t v h1
   cases v<;>first
    |exact this
    |(obtain ⟨b,h3,h4⟩:=this;exact ⟨b,(if_pos (by simpa only [V.VI] using h2)).trans h3,h4⟩)
 .intro id cs e
  obtain ⟨b,h1,h2⟩:=h.f.box id cs (k3 id cs e)
  simp_all
 .intro id b e
  split at e
  .rename_i hs
   cases ha:assoc env'.boxes id with
   |none=>simp_all
   |some cs=>simp_all
  grind
 .intro i j b U e2
  split at U<;>split at e2<;>first|cases U;done|cases e2;done|exact h.f.inj i j b U e2
 .intro id b e
  split at e
  .exact h.f.sep id b e
  grind
theorem Rel.put (h:Rel D I0 st0 w0 I β env st a w) {v:V} {c:Value} (k:Bg I β v c) {t:Nat} (ht:t<env.sz):
 Rel D I0 st0 w0 I β {env with tmps:=(t,v)::env.tmps} st (a.put (some t) c) w:=by
 refine ⟨h.fr,h.s,{h.f with size:=?_,tmps:=?_,defers:=h.f.defers}⟩
 .simpa [Act.put] using h.f.size
 .intro t' v' e
  rw [BF] at e
  cases hb:Nat.beq t t' with
  |true=>
   rw [hb] at e
   have:=Nat.eq_of_beq_eq_true hb
   subst this
   simp only [cond_true,Option.some.injEq] at e
   subst e
   have U:t<a.tmps.size:=by rw [h.f.size];exact ht
   simpa [Act.put,U] using k
  |false=>
   rw [hb] at e
   have hne:t≠t':=λx=>by simp_all
   have:=h.f.tmps t' v' e
   simpa [Act.put,Array.getElem?_setIfInBounds_ne hne] using this
theorem Rel.cN (h:Rel D I0 st0 w0 I β env st a w) {id b:Nat} {cs cs':List V} {vs us:List Value} {ty:TypeId} (hb:β id=some b) (hw:w.heap[b]? =some (.cells vs.toArray ty (0,0)))
 (k:Ar I cs' us):Rel D I0 st0 w0 I β {env with boxes:=(id,cs')::env.boxes} st a (w.setRow b us.toArray):=by
 obtain ⟨s1,s2,s3,s4,s5,s6⟩:=h.f.sep id b hb
 have hn:=setRow_heap w b vs.toArray us.toArray ty (0,0) hw
 have ho:∀x,x≠b->(w.setRow b us.toArray).heap[x]? =w.heap[x]? :=λx U=>setRow_other w b x us.toArray U
 refine ⟨⟨h.fr.os,h.fr.tape,h.fr.output,GT,λx U h1 h2=>?_,h.fr.le,h.fr.new,h.fr.My,h.fr.Mv⟩,⟨?_,?_,?_,h.s.Jh,?_,h.s.UE⟩,⟨h.f.size,h.f.tmps,?_,h.f.BS,h.f.inj,?_,h.f.defers⟩⟩
 .rw [ho x H1];exact h.fr.NB x U h1 h2
 .intro x o v e
  have U:x≠b:=λU=>by simp_all
  rw [HI (ho x U)];exact h.s.cell x o v e
 .intro x n e
  have U:x≠b:=λU=>by simp_all
  obtain ⟨c,ty',h1,h2⟩:=h.s.shape x n e
  simp_all
 .intro x n e
  have U:x≠b:=λU=>by simp_all
  obtain ⟨c,ty',h1,h2⟩:=h.s.box x n e
  simp_all
 .intro x n e
  exact ⟨by simpa using (h.s.hw x n e).1,(h.s.hw x n e).2⟩
 .intro id' c e
  rw [BF] at e
  cases hq:Nat.beq id id' with
  |true=>
   rw [hq] at e
   have:=Nat.eq_of_beq_eq_true hq
   subst this
   simp only [cond_true,Option.some.injEq] at e
   subst e
   exact ⟨b,hb,.inl ⟨us,ty,hn,k⟩⟩
  |false=>
   rw [hq] at e
   obtain ⟨b',h1,h2⟩:=h.f.box id' c e
   have U:b'≠b:=λU=>by
    subst U
    have:=h.f.inj _ _ _ h1 hb
    simp_all
   simp_all
 .intro id' b' e
  obtain ⟨h1,h2,h3⟩:=h.f.sep id' b' e
  simp_all
theorem Rel.P9 (h:Rel D I0 st0 w0 I β env st a w) {b:Nat} {cs cs':List V} {vs us:List Value} {ty:TypeId} (hb:st.box b=some cs) (hw:w.heap[b]? =some (.cells vs.toArray ty (0,0)))
 (k:Ar I cs' us):Rel D I0 st0 w0 I β env (st.Ab b cs') a (w.setRow b us.toArray):=by
 obtain ⟨s3,s6,s4⟩:=h.s.Jh b lm
 have hn:=setRow_heap w b vs.toArray us.toArray ty (0,0) hw
 have ho:∀x,x≠b->(w.setRow b us.toArray).heap[x]? =w.heap[x]? :=λx U=>setRow_other w b x us.toArray U
 have hd:=h.fr.Mv b (.inl lm)
 have nb:∀x,(st.Ab b cs').box x≠none->st.box x≠none:=λx e=>by
  by_cases U:x=b
  .simp_all
  .simpa [St.Ab,U] using e
 refine ⟨⟨h.fr.os,h.fr.tape,h.fr.output,by simpa using h.fr.size,λx U h1 h2=>?_,h.fr.le,h.fr.new,h.fr.My,λx e=>h.fr.Mv x (e.imp (nb x) id)⟩,⟨?_,?_,?_,λx e=>h.s.Jh x (nb x e),?_,h.s.UE⟩,⟨h.f.size,h.f.tmps,?_,h.f.BS,h.f.inj,?_,h.f.defers⟩⟩
 .have hne:x≠b:=λe=>by grind
  rw [ho x hne];exact h.fr.NB x U h1 h2
 .intro x o v e
  have U:x≠b:=λU=>by simp_all
  rw [HI (ho x U)];exact h.s.cell x o v e
 .intro x n e
  have U:x≠b:=λU=>by simp_all
  obtain ⟨c,ty',h1,h2⟩:=h.s.shape x n e
  simp_all
 .intro x c e
  simp only [St.Ab] at e
  split at e
  .simp_all
  .rename_i U
   obtain ⟨c',ty',h1,h2⟩:=h.s.box x c e
   simp_all
 .intro x n e
  exact ⟨by simpa using (h.s.hw x n e).1,(h.s.hw x n e).2⟩
 .intro id' c e
  obtain ⟨b',h1,h2⟩:=h.f.box id' c e
  have U:b'≠b:=λU=>by
   subst U
   have:=(h.f.sep id' b' h1).2.2.2.2.1
   simp_all
  simp_all
 .intro id' b' e
  obtain ⟨h1,h2,h3,h4,h5,h6⟩:=h.f.sep id' b' e
  have U:b'≠b:=λU=>by simp_all
  exact ⟨h1,lm,h3,h4,GT,h6⟩
theorem Rel.kq (h:Rel D I0 st0 w0 I β env st a w) {b n m:Nat} {cur:List Value} {ty:TypeId} (hh:st.hw b=some n) (hw:w.heap[b]? =some (.cells cur.toArray ty (0,0))) (hs:I.shape b=some m)
 (vs:List Value) (hle:n+vs.length<=cur.length):
 Rel D I0 st0 w0 (I.add b n vs m) β env ((st.Fm b).Cw b (n+vs.length)) a (w.setRow b (cur.take n++vs++cur.drop (n+vs.length)).toArray):=by
 have hf:=(h.s.hw b n hh).2
 have hl:I.le (I.add b n vs m):=Mem.Sp hf (.inr hs)
 have hn:=setRow_heap w b cur.toArray (cur.take n++vs++cur.drop (n+vs.length)).toArray ty (0,0) hw
 have ho:∀x,x≠b->(w.setRow b (cur.take n++vs++cur.drop (n+vs.length)).toArray).heap[x]? =w.heap[x]? :=λx U=>setRow_other w b x _ U
 have hd:=h.fr.Mv b (.inr lm)
 have hbx:st.box b=none:=by
  cases e:st.box b with
  |none=>rfl
  |some c=>have:=(h.s.Jh b lm).2.1;simp_all
 have nh:∀x,((st.Fm b).Cw b (n+vs.length)).hw x≠none->st.hw x≠none:=λx e=>by
  by_cases U:x=b
  .simp_all
  .simpa [St.Cw,St.Fm,U] using e
 have hlen:(cur.take n++vs++cur.drop (n+vs.length)).length=cur.length:=i6
 refine ⟨⟨h.fr.os,h.fr.tape,h.fr.output,by simpa using h.fr.size,λx U h1 h2=>?_,Mem.le_trans h.fr.le hl,?_,?_,λx e=>h.fr.Mv x (e.imp id (nh x))⟩,⟨?_,?_,?_,?_,?_,Vv hl.1 hl.2 h.s.UE⟩,
  ⟨h.f.size,λt v e=>(h.f.tmps t v e).mono hl,?_,h.f.BS,h.f.inj,?_,h.f.defers⟩⟩
 .have hne:x≠b:=λe=>by grind
  rw [ho x hne];exact h.fr.NB x U h1 h2
 .intro x o h1 h2
  by_cases e:x=b
  .simp_all
  .exact h.fr.new x o h1 (by simpa [Mem.add,e] using h2)
 .intro x h1 h2
  by_cases e:x=b
  .simp_all
  .exact h.fr.My x h1 (by simpa [Mem.add,e] using h2)
 .intro x o v e
  simp only [Mem.add] at e
  split at e
  .rename_i U
   obtain ⟨rfl,h1,h2⟩:=U
   simp only [World.cell?,hn,Option.isSome_none,Bool.false_eq_true,if_false,List.getElem?_toArray]
   grind
  .rename_i U
   by_cases hxb:x=b
   .subst hxb
    have hc:=h.s.cell x o v e
    have hlt:o<n:=by
     rcases Nat.lt_or_ge o n with h'|h'
     .exact h'
     .simp_all
    simp only [World.cell?,hw,Option.isSome_none,Bool.false_eq_true,if_false,List.getElem?_toArray] at hc
    simp only [World.cell?,hn,Option.isSome_none,Bool.false_eq_true,if_false,List.getElem?_toArray]
    grind
   .rw [HI (ho x hxb)];exact h.s.cell x o v e
 .intro x k e
  simp only [Mem.add] at e
  split at e
  .rename_i U
   subst U
   injection e with e
   subst e
   obtain ⟨c,ty',h1,h2⟩:=h.s.shape x _ hs
   simp_all
  .rename_i U
   obtain ⟨c,ty',h1,h2⟩:=h.s.shape x k e
   simp_all
 .intro x c e
  have U:x≠b:=λU=>by
   subst U
   rw [show ((st.Fm x).Cw x (n+vs.length)).box x=st.box x from rfl,hbx] at e;cases e
  obtain ⟨c',ty',h1,h2⟩:=h.s.box x c e
  exact ⟨c',ty',lm,Ar.mono hl _ _ h2⟩
 .intro x e
  have U:x≠b:=λU=>e (by subst U;exact hbx)
  obtain ⟨h1,h2,h3⟩:=h.s.Jh x e
  exact ⟨λo=>by simp [Mem.add,U,h1 o],GT,by simp [Mem.add,U,h3]⟩
 .intro x k e
  simp only [St.Cw,St.Fm] at e
  split at e
  .rename_i U
   subst U
   injection e with e
   subst e
   exact ⟨GT,λo ho'=>by simp only [Mem.add];grind⟩
  .rename_i U
   first|rw [if_neg U] at e|skip
   exact ⟨by simpa using (h.s.hw x k e).1,λo ho'=>by simp only [Mem.add];rw [if_neg (by simp [U])];exact (h.s.hw x k e).2 o ho'⟩
 .intro id' c e
  obtain ⟨b',h1,h2⟩:=h.f.box id' c e
  have U:b'≠b:=λU=>by
   subst U
   have:=(h.f.sep id' b' h1).2.2.2.2.2
   simp_all
  exact ⟨b',h1,by rw [ho b' U];exact h2.mono hl⟩
 .intro id' b' e
  obtain ⟨h1,h2,h3,h4,h5,h6⟩:=h.f.sep id' b' e
  have U:b'≠b:=λU=>by simp_all
  exact ⟨h1,lm,λo=>by simp [Mem.add,U,h3 o],by simp [Mem.add,U,h4],h5,GT⟩
theorem Rel.oz (h:Rel D I0 st0 w0 I β env st a w) {b n:Nat} {cur:List Value} {ty:TypeId} (hh:st.hw b=some n) (hw:w.heap[b]? =some (.cells cur.toArray ty (0,0)))
 (vs:List Value) (hle:n+vs.length<=cur.length):Rel D I0 st0 w0 I β env st a (w.setRow b (cur.take n++vs++cur.drop (n+vs.length)).toArray):=by
 have hf:=(h.s.hw b n hh).2
 have hn:=setRow_heap w b cur.toArray (cur.take n++vs++cur.drop (n+vs.length)).toArray ty (0,0) hw
 have ho:∀x,x≠b->(w.setRow b (cur.take n++vs++cur.drop (n+vs.length)).toArray).heap[x]? =w.heap[x]? :=λx hx=>setRow_other w b x _ hx
 have hd:=h.fr.Mv b (.inr lm)
 have hbx:st.box b=none:=by
  cases e:st.box b with
  |none=>rfl
  |some c=>have:=(h.s.Jh b lm).2.1;simp_all
 have hlen:(cur.take n++vs++cur.drop (n+vs.length)).length=cur.length:=i6
 refine ⟨⟨h.fr.os,h.fr.tape,h.fr.output,by simpa using h.fr.size,λx hx U h2=>?_,h.fr.le,h.fr.new,h.fr.My,h.fr.Mv⟩,⟨?_,?_,?_,h.s.Jh,λx k e=>⟨by simpa using (h.s.hw x k e).1,(h.s.hw x k e).2⟩,h.s.UE⟩,
  ⟨h.f.size,h.f.tmps,?_,h.f.BS,h.f.inj,?_,h.f.defers⟩⟩
 .have hne:x≠b:=λe=>by grind
  rw [ho x hne];exact h.fr.NB x hx U h2
 .intro x o v e
  by_cases hxb:x=b
  .subst hxb
   have hc:=h.s.cell x o v e
   have hlt:o<n:=by
    rcases Nat.lt_or_ge o n with h'|h'
    .exact h'
    .simp_all
   simp only [World.cell?,hw,Option.isSome_none,Bool.false_eq_true,if_false,List.getElem?_toArray] at hc
   simp only [World.cell?,hn,Option.isSome_none,Bool.false_eq_true,if_false,List.getElem?_toArray]
   grind
  .rw [HI (ho x hxb)];exact h.s.cell x o v e
 .intro x k e
  obtain ⟨c,ty',U,h2⟩:=h.s.shape x k e
  by_cases hxb:x=b
  .subst hxb
   rw [hw] at U
   injection U with U
   injection U with U
   exact ⟨_,ty,hn,by rw [<-h2,<-U,List.size_toArray,List.size_toArray,hlen]⟩
  .exact ⟨c,ty',by rw [ho x hxb];exact U,h2⟩
 .intro x c e
  have hx:x≠b:=λhx=>by simp_all
  obtain ⟨c',ty',U,h2⟩:=h.s.box x c e
  exact ⟨c',ty',lm,h2⟩
 .intro id' c e
  obtain ⟨b',U,h2⟩:=h.f.box id' c e
  have hx:b'≠b:=λhx=>by
   subst hx
   have:=(h.f.sep id' b' U).2.2.2.2.2
   simp_all
  exact ⟨b',U,by rw [ho b' hx];exact h2⟩
 .intro id' b' e
  obtain ⟨U,h2,h3,h4,h5,h6⟩:=h.f.sep id' b' e
  simp_all
theorem Rel.called {I1:Mem} {U:St} {w1:World} (h:Rel D I0 st0 w0 I β env st a w) (f:Fr I st w I1 U w1) (s:Db I1 U w1):Rel D I0 st0 w0 I1 β env U a w1:=by
 have key:∀id b,β id=some b->(∀o,I1.cell b o=none)/\U.box b=none/\U.hw b=none/\w1.heap[b]? =w.heap[b]? :=λid b e=>by
  obtain ⟨h1,h2,h3,h4,h5,h6⟩:=h.f.sep id b e
  refine ⟨λo=>?_,?_,?_,f.NB b h2 h5 h6⟩
  .cases hc:I1.cell b o with
   |none=>rfl
   |some v=>rcases f.new b o (h3 o) (by rw [hc];simp) with h|h|h<;>first|omega|contradiction
  .cases hc:U.box b with
   |none=>rfl
   |some v=>rcases f.Mv b (.inl (by rw [hc];simp)) with h|h|h<;>first|omega|contradiction
  .cases hc:U.hw b with
   |none=>rfl
   |some v=>rcases f.Mv b (.inr (by rw [hc];simp)) with h|h|h<;>first|omega|contradiction
 refine ⟨h.fr.trans f,s,⟨h.f.size,λt v e=>(h.f.tmps t v e).mono f.le,?_,h.f.BS,h.f.inj,?_,h.f.defers⟩⟩
 .intro id cs e
  obtain ⟨b,h1,h2⟩:=h.f.box id cs e
  exact ⟨b,h1,by rw [(key id b h1).2.2.2];exact h2.mono f.le⟩
 .intro id b e
  obtain ⟨h1,h2,h3,h4,h5,h6⟩:=h.f.sep id b e
  obtain ⟨k1,k2,k3,k4⟩:=key id b e
  refine ⟨h1,Nat.lt_of_lt_of_le h2 f.size,k1,?_,k2,k3⟩
  cases hc:I1.shape b with
  |none=>rfl
  |some v=>rcases f.My b h4 (by rw [hc];simp) with h|h|h<;>first|omega|contradiction
end
def Mem.empty:Mem:=⟨λ_ _=>none,λ_=>none⟩
theorem Mem.empty_le (I:Mem):Mem.empty.le I:=⟨λ_ _ _ h=>(by cases h),λ_ _ h=>(by cases h)⟩
def Tt:TypeDesc->Bool
 | .struct _| .array _ _=>true
 |_=>false
def dM (P:Program) (t:TypeId) (z:List V):Bool:=
 !P.stoodInHeld t&& !P.eqGuardType P.depth t&&match P.underlying t with
 |some (.struct fs)=>fs.size==z.length&&(List.range z.length).all λi=>match fs.toList[i]?,z[i]? with
  | some f, some v => f.name != "_" && f.offset == i && P.plainKey f.type && match v, P.underlying f.type with
    | .int _ _,some (.int _)=>true
    | .str _,some .string=>true
    | .bool _,some .bool=>true
    |_,_=>false
  |_,_=>false
 |_=>false
def OJ (P:Program) (t:TypeId):Ty->Prop
 | .sc z=>∃i d c,P.info? t=some i/\P.underlying t=some d/\Tt d=false/\i.size=1/\i.zero=some c/\A0 Mem.empty z c/\c.cells=#[c]/\z.known=true/\z.cells=[z]/\
    (match z with| .str _=>d=.string| .Ht=>∃ms,d=.interface ms| .int k _=>d=.int k| .bool _=>d=.bool|_=>∀ms,d≠.interface ms)
 | .slice e sz bytes=>∃i j c,P.info? t=some i/\P.underlying t=some (.slice e)/\i.size=1/\i.zero=some (.slice none 0 0)/\P.info? e=some j/\j.size=sz/\j.bytes=bytes/\0<sz/\j.zero=some c/\c.cells.size=sz
 | .struct U z=>∃i fields,∃zs:List Value,P.info? t=some i/\P.underlying t=some (.struct fields)/\i.size=z.length/\i.zero=some (.agg zs.toArray)/\Ar Mem.empty z zs/\ 
    fields.size=U.length/\(∀(n o s:Nat),U[n]? =some (o,s)->∃(f:Field) (j:TypeInfo),(fields[n]? =some f/\f.offset=o/\P.info? f.type=some j/\j.size=s))/\
    (dR z=true->dM P t z=true)/\(∀n o:Nat,U[n]? =some (o,1)->∃(f:Field) (d:TypeDesc),fields[n]? =some f/\f.offset=o/\P.underlying f.type=some d/\Tt d=false)
 | .arr U z=>∃i n e j,∃zs:List Value,P.info? t=some i/\P.underlying t=some (.array n e)/\i.size=z.length/\i.zero=some (.agg zs.toArray)/\Ar Mem.empty z zs/\P.info? e=some j/\
    (∀(m o s:Nat),U[m]? =some (o,s)->o=m*j.size/\s=j.size/\m<n)
def HG (P:Program) (T:List (Nat×Ty)):Prop:=∀t ty,assoc T t=some ty->OJ P t ty
section
variable {D:List Deferred} {P:Program} {T:List (Nat×Ty)} {I:Mem} {β:Nat->Option Nat} {env:Env} {st:St} {a:Act} {w:World} {B:Nat}
theorem Je.get (h:Je D B I β env st a w) (t:Nat):Bg I β (env.get t) (a.tmps.getD t undef):=by
 simp only [Env.get]
 cases U:assoc env.tmps t with
 |none=>exact Bg.of (by simp only [A0])
 |some v=>exact h.tmps t v U
theorem iE (c:Value):A0 I (Ri c) c:=by
 unfold Ri
 split
 .rfl
 .rfl
 .rename_i l
  split
  .rename_i h
   simp only [A0]
   exact ⟨trivial,by simpa [Nat.blt_eq,Fk] using h⟩
  .simp only [A0]
 all_goals simp only [A0]
theorem Je.eval (h:Je D B I β env st a w) (x:Operand):Bg I β (env.eval x) (a.eval x):=by
 cases x with
 |tmp t=>exact h.get t
 |const c=>exact Bg.of (iE c)
 |global g=>exact Bg.of (v:=.Cc) (by simp only [A0])
 |func f=>exact Bg.of (v:=.func f [] []) (by simp only [A0];exact ⟨[],[],rfl,PP,PP⟩)
theorem MG {x:Operand} (h:GV x=true):x=.const (.slice none 0 0):=by
 unfold GV at h
 grind
theorem KL {sz:Nat} (h:0<sz) (own:Ay) (U:own=.full\/own=.any):A0 I (.slice sz [] own) (.slice none 0 0):=by
 simp only [A0]
 exact ⟨none,0,rfl,Nat.le_refl _,by simp [Fk],h,by rcases U with rfl|rfl;exact rfl;trivial,rfl⟩
theorem Je.CC (hT:HG P T) (h:Je D B I β env st a w) (t:TypeId) (x:Operand):Bg I β (env.CC T t x) (a.eval x):=by
 simp only [Env.CC]
 cases hn:GV x with
 |false=>exact h.eval x
 |true=>
  have:=MG hn
  subst this
  simp only
  split
  .rename_i e sz b ht
   obtain ⟨i,j,c,_,_,_,_,_,_,_,U,_⟩:=hT t _ ht
   exact Bg.of (KL U _ (.inl rfl))
  .exact Bg.of (v:=.Cc) (by simp only [A0])
theorem Bg.rep {v:V} {c:Value} (h:Bg I β v c) (k:v.plain=true):A0 I v c:=by
 cases v<;>first|exact h|cases k
theorem AL {t:TypeId} {d:TypeDesc} (h:P.underlying t=some d):(underlying t).run P w=.ok d w:=run_underlying h w
theorem Mj {t:TypeId} {d:TypeDesc} (h:P.underlying t=some d):(isAgg t).run P w=.ok (Tt d) w:=by
 simp only [isAgg,Sem.run_bind,AL h,Result.andThen_ok]
 cases d<;>rfl
theorem Cu {t:TypeId} {i:TypeInfo} (h:P.info? t=some i):(sizeOf t).run P w=.ok i.size w:=by
 simp [sizeOf,typeInfo,h]
theorem EZ {t:TypeId} {i:TypeInfo} {z:Value} (h:P.info? t=some i) (U:i.zero=some z):(zeroValue t).run P w=.ok z w:=by
 simp [zeroValue,typeInfo,h,U]
def Ty.one:Ty->Prop
 | .struct _ _| .arr _ _=>False
 |_=>True
theorem OJ.sc {t:TypeId} {ty:Ty} (h:OJ P t ty) (k:ty.one):∃i d c,P.info? t=some i/\P.underlying t=some d/\Tt d=false/\i.size=1/\i.zero=some c/\A0 Mem.empty ty.zero c/\c.cells=#[c]:=by
 cases ty with
 |sc z=>
  obtain ⟨i,d,c,U,h2,h3,h4,h5,h6,h7,_⟩:=h
  exact ⟨i,d,c,U,h2,h3,h4,h5,h6,h7⟩
 |slice e sz b=>
  obtain ⟨i,j,c,U,h2,h3,h4,h5,h6,h7,h8,_⟩:=h
  exact ⟨i,.slice e,.slice none 0 0,U,h2,rfl,h3,h4,KL h8 _ (.inl rfl),rfl⟩
 |struct _ _=>exact k.elim
 |arr _ _=>exact k.elim
theorem SW {t:TypeId} {ty:Ty} (h:OJ P t ty) (k:ty.one) {U:Addr} {v:Value} (hv:w.cell? U=some v):(loadVar t U).run P w=.ok v w:=by
 obtain ⟨i,d,c,h1,h2,h3,_⟩:=h.sc k
 simp only [loadVar,Sem.run_bind,Mj h2,h3,Result.andThen_ok,Bool.false_eq_true,if_false,run_load,hv]
theorem Di (b o n:Nat):(⟨b,o,none⟩:Addr).add n=⟨b,o+n,none⟩:=by unfold Addr.add;simp_all
theorem Iu {t:TypeId} {U:List (Nat×Nat)} {z:List V} (h:OJ P t (.struct U z)) {b o:Nat} {vs:List Value} (hl:vs.length=z.length)
 (hv:∀j v,vs[j]? =some v->w.cell? ⟨b,o+j,none⟩=some v):(loadVar t ⟨b,o,none⟩).run P w=.ok (.agg vs.toArray) w:=by
 obtain ⟨i,fields,zs,h1,h2,h3,_⟩:=h
 have hc:=run_loadCells_list (P:=P) w ⟨b,o,none⟩ vs (λj v e=>by rw [Di];simp_all)
 rw [hl,<-h3] at hc
 simp only [loadVar,Sem.run_bind,Mj h2,Tt,Cu h1,Result.andThen_ok,if_true,hc,Sem.run_pure]
theorem K0 {t:TypeId} {U:List (Nat×Nat)} {z:List V} (h:OJ P t (.arr U z)) {b o:Nat} {vs:List Value} (hl:vs.length=z.length)
 (hv:∀j v,vs[j]? =some v->w.cell? ⟨b,o+j,none⟩=some v):(loadVar t ⟨b,o,none⟩).run P w=.ok (.agg vs.toArray) w:=by
 obtain ⟨i,n,e,j,zs,h1,h2,h3,_⟩:=h
 have hc:=run_loadCells_list (P:=P) w ⟨b,o,none⟩ vs (λj v e=>by rw [Di];simp_all)
 rw [hl,<-h3] at hc
 simp only [loadVar,Sem.run_bind,Mj h2,Tt,Cu h1,Result.andThen_ok,if_true,hc,Sem.run_pure]
theorem EU (hT:HG P T) {cs:List V} {vs:List Value} {b o off:Nat} {t:TypeId} {K:V->Prop} (hk:Ar I cs vs) (hv:∀j v,vs[j]? =some v->w.cell? ⟨b,o+j,none⟩=some v)
 (h:DS cs off (assoc T t) K):∃v c,(loadVar t ⟨b,o+off,none⟩).run P w=.ok c w/\A0 I v c/\K v:=by
 have scCase:∀ty:Ty,assoc T t=some ty->ty.one->(match cs[off]? with|some v=>v.force K|none=>False)->∃v c,(loadVar t ⟨b,o+off,none⟩).run P w=.ok c w/\A0 I v c/\K v:=by
  intro ty ht hone h
  cases hc:cs[off]? with
  |none=>simp_all
  |some v=>
   rw [hc] at h
   obtain ⟨c,h1,h2⟩:=Ar.get hk hc
   exact ⟨v,c,SW (hT t ty ht) hone (hv off c h1),h2,V.AY.1 h⟩
 unfold DS at h
 replace h:=(AE.1 h).2
 split at h
 .rename_i offs z ht
  have U:=hT t _ ht
  have hlen:=Ar.length hk
  split at h
  .rename_i hb
   simp only [Bool.and_eq_true] at hb
   have h0:off=0:=Nat.eq_of_beq_eq_true hb.1
   have hz:z.length=cs.length:=Nat.eq_of_beq_eq_true hb.2
   subst h0
   exact ⟨.agg cs,.agg vs.toArray,Iu U H1 (λj v e=>by simp_all),by simp only [A0];simp_all,h⟩
  .obtain ⟨hle,h⟩:=AE.1 h
   have hle:=Nat.le_of_ble_eq_true hle
   refine ⟨_,.agg ((vs.drop off).take z.length).toArray,Iu U GT (λj v e=>?_),?_,Bq.1 h⟩
   .grind
   .simp only [A0]
    exact ⟨_,rfl,Ar.take _ (Ar.drop _ hk)⟩
 .rename_i offs z ht
  have U:=hT t _ ht
  have hlen:=Ar.length hk
  split at h
  .rename_i hb
   simp only [Bool.and_eq_true] at hb
   have h0:off=0:=Nat.eq_of_beq_eq_true hb.1
   have hz:z.length=cs.length:=Nat.eq_of_beq_eq_true hb.2
   subst h0
   exact ⟨.agg cs,.agg vs.toArray,K0 U H1 (λj v e=>by simp_all),by simp only [A0];simp_all,h⟩
  .obtain ⟨hle,h⟩:=AE.1 h
   have hle:=Nat.le_of_ble_eq_true hle
   refine ⟨_,.agg ((vs.drop off).take z.length).toArray,K0 U GT (λj v e=>?_),?_,Bq.1 h⟩
   .grind
   .simp only [A0]
    exact ⟨_,rfl,Ar.take _ (Ar.drop _ hk)⟩
 .rename_i ty hns hna ht
  exact scCase _ ht (by cases ty<;>first|trivial|exact (hns _ _ rfl).elim|exact (hna _ _ rfl).elim) h
 simp_all
end
def Y3 (I:Mem):Ending->AD->Prop
 | .returned c,.ret v=>A0 I v c
 | .panicked chain,.Ci v=>∃c,chain=[{v:=c,recovered:=false}]/\A0 I v c
 |_,_=>False
def DE (P:Program) (f:FuncId) (args:List V) (st:St) (R:AD->St->Prop):Prop:=
 ∀(I:Mem) (w:World) (U:List Value),Db I st w->Ar I args U->
  Calls P f U.toArray w λe w'=>∃I' st' r,Fr I st w I' st' w'/\Db I' st' w'/\Y3 I' e r/\R r st'
theorem DE.mono {P:Program} {f:FuncId} {args:List V} {st:St} {R R':AD->St->Prop} (h:DE P f args st R) (k:∀r s,R r s->R' r s):DE P f args st R':=
 λI w U h1 h2=>(h I w U h1 h2).mono λe w' ⟨I',st',r,k1,k2,k3,k4⟩=>⟨I',st',r,k1,k2,k3,k r st' k4⟩
def xG (I:Mem):Exit->AG->Prop
 | .normal,.normal=>True
 | .exit i,.exit j=>i=j
 | .goto i,.goto j=>i=j
 | .ret,.ret=>True
 | .panic chain,.Ci v=>∃c,chain=[{v:=c,recovered:=false}]/\A0 I v c
 |_,_=>False
def DH (D:List Deferred) (I0:Mem) (st0:St) (w0:World) (Q:AG->Env->St->Prop):Exit->Act->World->Prop:=
 λe a w=>∃I β env st U,Rel D I0 st0 w0 I β env st a w/\xG I e U/\Q U env st
def AW (P:Program) (c:Code) (Q:AG->Env->St->Prop) (env:Env) (st:St):Prop:=
 ∀D I0 st0 w0 I β a w,Rel D I0 st0 w0 I β env st a w->c.wp P (DH D I0 st0 w0 Q) a w
section
variable {D:List Deferred} {P:Program} {T:List (Nat×Ty)} {C:FuncId->List V->St->(AD->St->Prop)->Prop} {I0 I:Mem} {st0 st:St} {w0 w:World} {β:Nat->Option Nat} {env:Env} {a:Act}
variable {o:Oper} {K:V->Env->St->Prop} {Q:AG->Env->St->Prop} {next:Act->World->Prop}
def Dd (D:List Deferred) (I0:Mem) (st0:St) (w0:World) (U:Nat->Option Nat) (n0:Nat) (a:Act) (dst:Option Tmp) (next:Act->World->Prop) (K:V->Env->St->Prop):Prop:=
 ∀I β env st v c w,Rel D I0 st0 w0 I β env st a w->Bg I β v c->(∀id,id<n0->β id=U id)->K v env st->next (a.put dst c) w
theorem AX {c:Value} {v:V} {w':World} {I':Mem} {β':Nat->Option Nat} {env':Env} {st':St} {Qc:Exit->Act->World->Prop} (hK:Dd D I0 st0 w0 β env.BS a o.dst next K)
 (hr:(execOp a.eval o).run P w=.ok (.value c) w') (h:Rel D I0 st0 w0 I' β' env' st' a w') (hv:Bg I' β' v c) (k:K v env' st') (U:∀id,id<env.BS->β' id=β id:=by exact λ_ _=>rfl):o.wp P a w next Qc:=by
 unfold Oper.wp;rw [hr];exact hK _ _ _ _ _ _ _ h hv U k
theorem eA {w':World} {I':Mem} {β':Nat->Option Nat} {env':Env} {st':St} {Qc:Exit->Act->World->Prop} (hK:Dd D I0 st0 w0 β env.BS a o.dst next K)
 (hr:(execOp a.eval o).run P w=.ok .skip w') (h:Rel D I0 st0 w0 I' β' env' st' a w') (k:K .Cc env' st') (U:∀id,id<env.BS->β' id=β id:=by exact λ_ _=>rfl):o.wp P a w next Qc:=by
 unfold Oper.wp;rw [hr];exact hK _ _ _ _ _ _ _ h (Bg.of (v:=.Cc) (by simp only [A0])) U k
theorem F7 {v:V} {c:Value} (h:A0 I v c) (k:v.known=true):Ar I v.cells c.cells.toList:=by
 have one:∀{u:V} {c:Value},A0 I u c->c.cells=#[c]->Ar I [u] c.cells.toList:=λ{u c} h e=>by
  rw [e];simp only [Ar];simp_all
 cases v with
 |Cc=>cases k
 |Cd _ _=>cases k
 |agg cs=>simp only [A0] at h;obtain ⟨vs,rfl,h⟩:=h;exact h
 |bool b=>refine one h ?_;simp only [A0] at h;subst h;rfl
 |int U n=>refine one h ?_;simp only [A0] at h;subst h;rfl
 |str s=>refine one h ?_;simp only [A0] at h;rw [h.1];rfl
 |Bl cs=>refine one h ?_;simp only [A0] at h;obtain ⟨vs,rfl,_⟩:=h;rfl
 |slice sz es own=>refine one h ?_;simp only [A0] at h;obtain ⟨x,y,rfl,_⟩:=h;rfl
 |ptr b off=>refine one h ?_;simp only [A0] at h;subst h;rfl
 |HK b off=>refine one h ?_;simp only [A0] at h;obtain ⟨x,y,rfl,_⟩:=h;rfl
 |GK=>refine one h ?_;simp only [A0] at h;subst h;rfl
 |func f x y=>refine one h ?_;simp only [A0] at h;obtain ⟨x,y,rfl,_⟩:=h;rfl
 |AM=>refine one h ?_;simp only [A0] at h;subst h;rfl
 |iface t v=>refine one h ?_;simp only [A0] at h;obtain ⟨x,rfl,_⟩:=h;rfl
 |Ht=>refine one h ?_;simp only [A0] at h;subst h;rfl
 |Qo _ _=>cases k
 |Eg _ _ _ _=>refine one h ?_;simp only [A0] at h;rw [h.1];rfl
 |jU l=>refine one h ?_;simp only [A0] at h;subst h;rfl
theorem Hq {v:V} (h:v.known=true):v.plain=true:=by cases v<;>first|rfl|cases h
theorem wM {v:V} {c:Value} (h:A0 I v c) (k:v.sc=true):c.oneCell'=true:=by
 cases v with
 |Cc=>cases k
 |agg cs=>cases k
 |Bl cs=>cases k
 |Cd _ _=>simp only [A0] at h
 |bool b=>simp only [A0] at h;subst h;rfl
 |int U n=>simp only [A0] at h;subst h;rfl
 |str s=>simp only [A0] at h;rw [h.1];rfl
 |slice sz es own=>simp only [A0] at h;obtain ⟨x,y,rfl,_⟩:=h;rfl
 |ptr b off=>simp only [A0] at h;subst h;rfl
 |HK b off=>simp only [A0] at h;obtain ⟨x,y,rfl,_⟩:=h;rfl
 |GK=>simp only [A0] at h;subst h;rfl
 |func f x y=>simp only [A0] at h;obtain ⟨x,y,rfl,_⟩:=h;rfl
 |AM=>simp only [A0] at h;subst h;rfl
 |iface t v=>simp only [A0] at h;obtain ⟨x,rfl,_⟩:=h;rfl
 |Ht=>simp only [A0] at h;subst h;rfl
 |Qo _ _=>cases k
 |Eg _ _ _ _=>simp only [A0] at h;rw [h.1];rfl
 |jU l=>simp only [A0] at h;subst h;rfl
theorem cE:∀{l:List V} {vs:List Value},Ar I l vs->l.all V.sc=true->∀c ∈ vs,c.oneCell'=true
 |[],vs,k,h,c,hc=>by simp only [Ar] at k;simp_all
 |v::r,vs,k,h,c,hc=>by
  simp only [Ar] at k
  obtain ⟨c',s,e,U,k2⟩:=k
  subst e
  simp only [List.all_cons,Bool.and_eq_true] at h
  rcases List.mem_cons.1 hc with rfl|hc
  .exact wM U h.1
  .exact cE k2 h.2 c hc
theorem GP {B:Nat} (h:Je D B I β env st a w):∀{l:List Operand} {K:List V->Prop},Xn env l K->∃vs,Ar I vs (l.map a.eval)/\K vs
 |[],K,k=>⟨[],PP,k⟩
 |x::r,K,k=>by
  rw [XV,V.AY] at k
  obtain ⟨hp,k⟩:=AE.1 k
  obtain ⟨vs,U,h2⟩:=GP h k
  exact ⟨_,by simp only [List.map_cons,Ar];exact ⟨_,_,rfl,(h.eval x).rep hp,U⟩,h2⟩
theorem RV (U:HG P T) {B:Nat} (h:Je D B I β env st a w):∀{ts:List TypeId} {l:List Operand} {K:List V->Prop},aW T env ts l K->∃vs,Ar I vs (l.map a.eval)/\K vs
 |ts,[],K,k=>⟨[],PP,k⟩
 |ts,x::r,K,k=>by
  rw [T2,V.AY] at k
  obtain ⟨hp,k⟩:=AE.1 k
  obtain ⟨vs,h1,h2⟩:=RV U h k
  exact ⟨_,by simp only [List.map_cons,Ar];exact ⟨_,_,rfl,(h.CC U _ x).rep hp,h1⟩,h2⟩
theorem N8 (hK:Dd D I0 st0 w0 β env.BS a o.dst next K) (h:Rel D I0 st0 w0 I β env st a w) {cs:List V} {vs:List Value} (hv:Ar I cs vs) (ty:TypeId)
 (k:Ik env st o.dst cs K):next (a.put o.dst (.pointer (some ⟨w.heap.size,0,none⟩))) (w.alloc (.cells vs.toArray ty)):=by
 unfold Ik at k
 split at k
 .have k:=Bq.1 k _ (Eb h.s)
  exact hK _ _ _ _ _ _ _ (h.L6 hv ty) (Bg.of PP) (λ_ _=>rfl) k
 .have k:=Bq.1 k
  exact hK _ _ _ _ (.Cd _ 0) _ _ (h.mB hv ty) (show ∃b,_/\_ from ⟨w.heap.size,if_pos rfl,rfl⟩) (λid U=>if_neg (Nat.ne_of_lt U)) k
theorem fZ {B:Nat} {op:BinOp} {x y:V} {cx cy:Value} {K:V->Prop} (h1:Bg I β x cx) (h2:Bg I β y cy) (t:TypeId) (ox oy:Operand) (k:bin op x y K):
 ∃v c,(do eqGuard op t ox oy cx cy;binOp op t cx cy:Sem Value).run P w=.ok c w/\A0 I v c/\K v:=by
 have U:∀{cx cy:Value},((∃k n,cx=.int k n)\/(∃s,cx=.string s))->(eqGuard op t ox oy cx cy).run P w=.ok () w:=by
  intro cx cy h
  rcases h with ⟨k,n,rfl⟩|⟨s,rfl⟩<;>(unfold eqGuard;cases op<;>rfl)
 unfold bin at k
 split at k
 .rename_i ka na kb nb
  have e1:cx=.int ka na:=by have:=h1;simpa only [Bg,A0] using this
  have e2:cy=.int kb nb:=by have:=h2;simpa only [Bg,A0] using this
  subst e1;subst e2
  have k':Ev (decide (ka=kb)) _:=k
  rw [AE] at k'
  obtain ⟨hk,k'⟩:=k'
  clear k
  have hk:=of_decide_eq_true hk
  subst hk
  revert k'
  intro k
  simp only [Sem.run_bind,U (.inl ⟨_,_,rfl⟩),Result.andThen_ok]
  have bc:∀{b:Bool} {K:V->Prop},BG b (K (.bool true)) (K (.bool false))->K (.bool b):=λ{b K} h=>by cases b<;>first|exact Bk.1 h|exact Bu.1 h
  have bcn:∀{b:Bool} {K:V->Prop},BG b (K (.bool false)) (K (.bool true))->K (.bool (!b)):=λ{b K} h=>by cases b<;>first|exact Bk.1 h|exact Bu.1 h
  cases op
  case add=>obtain ⟨r,rfl,k⟩:=k;exact ⟨_,_,by simp [binOp,Op.intArith];rfl,PP,k⟩
  case sub=>obtain ⟨r,rfl,k⟩:=k;exact ⟨_,_,by simp [binOp,Op.intArith];rfl,PP,k⟩
  case mul=>obtain ⟨r,rfl,k⟩:=k;exact ⟨_,_,by simp [binOp,Op.intArith];rfl,PP,k⟩
  case quo=>obtain ⟨hb,r,rfl,k⟩:=k;exact ⟨_,_,by simp [binOp,Op.intDiv,hb];rfl,PP,k⟩
  case rem=>obtain ⟨hb,k⟩:=k;exact ⟨_,_,by simp [binOp,Op.intDiv,hb];rfl,PP,k⟩
  case and=>obtain ⟨r,rfl,k⟩:=k;exact ⟨_,_,by simp only [binOp,Op.intBits,ne_eq,not_true_eq_false,if_false];rfl,PP,k⟩
  case eql=>exact ⟨_,_,by simp [binOp,Op.intCmp];rfl,PP,bc (K:=K) k⟩
  case neq=>exact ⟨_,_,by simp [binOp,Op.intCmp,bne];rfl,PP,bcn (K:=K) k⟩
  case lss=>exact ⟨_,_,by simp [binOp,Op.intCmp];rfl,PP,bc (K:=K) k⟩
  case leq=>exact ⟨_,_,by simp [binOp,Op.intCmp];rfl,PP,bc (K:=K) k⟩
  case gtr=>exact ⟨_,_,by simp [binOp,Op.intCmp];rfl,PP,bc (K:=K) k⟩
  case geq=>exact ⟨_,_,by simp [binOp,Op.intCmp];rfl,PP,bc (K:=K) k⟩
  all_goals exact k.elim
 .rename_i sa sb
  have e1:cx=.string ⟨sa.toArray⟩/\sa.length<Fk:=by have:=h1;simpa only [Bg,A0] using this
  have e2:cy=.string ⟨sb.toArray⟩/\sb.length<Fk:=by have:=h2;simpa only [Bg,A0] using this
  obtain ⟨rfl,l1⟩:=e1
  obtain ⟨rfl,l2⟩:=e2
  simp only [Sem.run_bind,U (.inr ⟨_,rfl⟩),Result.andThen_ok]
  have bc:∀{b:Bool} {K:V->Prop},BG b (K (.bool true)) (K (.bool false))->K (.bool b):=λ{b K} h=>by cases b<;>first|exact Bk.1 h|exact Bu.1 h
  have bcn:∀{b:Bool} {K:V->Prop},BG b (K (.bool false)) (K (.bool true))->K (.bool (!b)):=λ{b K} h=>by cases b<;>first|exact Bk.1 h|exact Bu.1 h
  have hl:∀s:List UInt8,(⟨s.toArray⟩:ByteArray).toList=s:=λs=>ByteArray.toList_mk s
  cases op
  case add=>
   obtain ⟨hlen,k⟩:=k
   refine ⟨_,.string (⟨sa.toArray⟩++⟨sb.toArray⟩),?_,?_,k⟩
   .have:¬((9223372036854775807:Int)<((sa.length+sb.length:Nat):Int)):=by simp only [Fk] at hlen;omega
    have hs:(⟨sa.toArray⟩:ByteArray).size+(⟨sb.toArray⟩:ByteArray).size=sa.length+sb.length:=by
     show sa.toArray.size+sb.toArray.size=_
     simp
    have hm:IntKind.i64.max=9223372036854775807:=IR
    simp only [binOp,Op.stringOp,hs]
    simp_all
   .simp only [A0]
    refine ⟨?_,lm⟩
    congr 1
  case eql=>exact ⟨_,_,by simp only [binOp,Op.stringOp,hl];rfl,PP,bc (K:=K) k⟩
  case neq=>exact ⟨_,_,by simp only [binOp,Op.stringOp,hl];rfl,PP,bcn (K:=K) k⟩
  all_goals exact k.elim
 simp_all
end
section
variable {D:List Deferred} {P:Program} {T:List (Nat×Ty)} {C:FuncId->List V->St->(AD->St->Prop)->Prop} {I0 I:Mem} {st0 st:St} {w0 w:World} {β:Nat->Option Nat} {env:Env} {a:Act}
variable {o:Oper} {K:V->Env->St->Prop} {Q:AG->Env->St->Prop} {next:Act->World->Prop} {Qc:Exit->Act->World->Prop}
theorem J1 {b:Bool} {c:Value} (h:Bg I β (.bool b) c):c=.bool b:=by have:=h;simpa only [Bg,A0] using this
theorem Hj {k:IntKind} {n:Int} {c:Value} (h:Bg I β (.int k n) c):c=.int k n:=by have:=h;simpa only [Bg,A0] using this
theorem V6 {s:List UInt8} {c:Value} (h:Bg I β (.str s) c):c=.string ⟨s.toArray⟩/\s.length<Fk:=by have:=h;simpa only [Bg,A0] using this
theorem Om {b off:Nat} {c:Value} (h:Bg I β (.ptr b off) c):c=.pointer (some ⟨b,off,none⟩):=by have:=h;simpa only [Bg,A0] using this
theorem It {id off:Nat} {c:Value} (h:Bg I β (.Cd id off) c):∃b,β id=some b/\c=.pointer (some ⟨b,off,none⟩):=h
theorem SN {e:List V} {off:Nat} {c:Value} (h:Bg I β (.HK e off) c):∃b o,c=.pointer (some ⟨b,o+off,none⟩)/\Hn I b o e:=by have:=h;simpa only [Bg,A0] using this
theorem Ol {sz b n cap:Nat} {c:Value} (h:Bg I β (.Eg sz b n cap) c):c=.slice (some ⟨b,0,none⟩) n cap/\n<=cap/\n<Fk/\0<sz:=by
 have U:A0 I (.Eg sz b n cap) c:=h
 simp only [A0] at U
 exact U
theorem G0 {sz:Nat} {es:List (List V)} {own:Ay} {c:Value} (h:Bg I β (.slice sz es own) c):∃U cap,c=.slice U es.length cap/\es.length<=cap/\es.length<Fk/\0<sz/\Xp I sz es.length cap U own/\
 (match U with|none=>cap=0|some U=>(cap=0\/U.spot=none)/\CQ I sz U.block U.off es):=by
 have h':A0 I (.slice sz es own) c:=h
 simp only [A0] at h'
 omega
theorem S4 {x:Operand} (hT:HG P T) (hK:Dd D I0 st0 w0 β env.BS a o.dst next K) (h:Rel D I0 st0 w0 I β env st a w) (U:o.op=.move x\/o.op=.assign x)
 (k:(env.CC T o.type x).force λv=>K v env st):o.wp P a w next Qc:=by
 refine AX hK (c:=a.eval x) (w':=w) ?_ h (h.f.CC hT o.type x) (V.AY.1 k)
 rcases U with U|U<;>simp only [execOp,U]<;>rfl
theorem cK {c x y:Operand} (hT:HG P T) (U:Dd D I0 st0 w0 β env.BS a o.dst next K) (h:Rel D I0 st0 w0 I β env st a w) (ho:o.op=.pick c x y)
 (k:match env.eval c with
   | .bool t=>lit t ((env.CC T o.type x).force λv=>K v env st) ((env.CC T o.type y).force λv=>K v env st)
   |_=>False):o.wp P a w next Qc:=by
 have hc:=h.f.eval c
 split at k
 .rename_i t he
  rw [he] at hc
  have hc:=J1 hc
  cases t with
  |true=>
   have k:(env.CC T o.type x).force λv=>K v env st:=k
   refine AX U (c:=a.eval x) (w':=w) ?_ h (h.f.CC hT o.type x) (V.AY.1 k)
   simp only [execOp,ho,hc];rfl
  |false=>
   have k:(env.CC T o.type y).force λv=>K v env st:=k
   refine AX U (c:=a.eval y) (w':=w) ?_ h (h.f.CC hT o.type y) (V.AY.1 k)
   simp only [execOp,ho,hc];rfl
 simp_all
theorem fR {t:TypeId} {ty:Ty} (hT:HG P T) (I:Mem) (w:World) (a:Act) (ht:assoc T t=some ty) (ho:o.op=.alloc t):
 ∃vs:List Value,Ar I ty.zero.cells vs/\(execOp a.eval o).run P w=.ok (.value (.pointer (some ⟨w.heap.size,0,none⟩))) (w.alloc (.cells vs.toArray t)):=by
 have hz:∃(i:TypeInfo) (c:Value),P.info? t=some i/\i.zero=some c/\Ar I ty.zero.cells c.cells.toList:=by
  have hty:=hT t ty ht
  cases ty with
  |struct offs z=>
   obtain ⟨i,fields,zs,U,h2,h3,h4,h5,_⟩:=hty
   exact ⟨i,_,U,h4,Ar.mono (Mem.empty_le I) _ _ h5⟩
  |arr offs z=>
   obtain ⟨i,n,e,j,zs,U,h2,h3,h4,h5,_⟩:=hty
   exact ⟨i,_,U,h4,Ar.mono (Mem.empty_le I) _ _ h5⟩
  |sc z=>
   obtain ⟨i,d,c,U,h2,h3,h4,h5,h6,h7,h8,h9,_⟩:=hty
   exact ⟨i,c,U,h5,F7 (A0.mono (Mem.empty_le I) _ _ h6) h8⟩
  |slice e sz b=>
   obtain ⟨i,j,c,U,h2,h3,h4,h5,h6,h7,h8,_⟩:=hty
   exact ⟨i,_,U,h4,F7 (KL h8 _ (.inl rfl)) rfl⟩
 obtain ⟨i,c,U,h2,h3⟩:=hz
 refine ⟨_,h3,?_⟩
 simp only [execOp,ho,Instr.alloc,Sem.run_bind,EZ U h2,Result.andThen_ok,newVar,newRow,run_newObj,Sem.run_pure,World.alloc_eq,Array.toArray_toList]
theorem qp {t:TypeId} {x:Operand} (w:World) (a:Act) (U:o.op=.box t x):
 (execOp a.eval o).run P w=.ok (.value (.pointer (some ⟨w.heap.size,0,none⟩))) (w.alloc (.cells (a.eval x).cells.toList.toArray t)):=by
 simp only [execOp,U,Instr.box,Sem.run_bind,Result.andThen_ok,newVar,newRow,run_newObj,Sem.run_pure,World.alloc_eq,Array.toArray_toList]
theorem Zw {t:TypeId} (hT:HG P T) (hK:Dd D I0 st0 w0 β env.BS a o.dst next K) (h:Rel D I0 st0 w0 I β env st a w) (ho:o.op=.alloc t)
 (k:match assoc T t with|some ty=>Ik env st o.dst ty.zero.cells K|none=>False):o.wp P a w next Qc:=by
 split at k
 .rename_i ty ht
  obtain ⟨vs,U,hr⟩:=fR (P:=P) hT I w a ht ho
  unfold Oper.wp
  rw [hr]
  exact N8 hK h U t k
 simp_all
theorem iU {t:TypeId} {x:Operand} (hT:HG P T) (hK:Dd D I0 st0 w0 β env.BS a o.dst next K) (h:Rel D I0 st0 w0 I β env st a w) (ho:o.op=.box t x)
 (k:(env.CC T t x).force λv=>Ev v.known (Ik env st o.dst v.cells K)):o.wp P a w next Qc:=by
 obtain ⟨U,k⟩:=AE.1 (V.AY.1 k)
 have hv:=(h.f.CC hT t x).rep (Hq U)
 unfold Oper.wp
 rw [qp w a ho]
 exact N8 hK h (F7 hv U) t k
theorem JO {w:World} {b:Nat} {vs:List Value} {ty:TypeId} (hb:w.heap[b]? =some (.cells vs.toArray ty (0,0))) {j:Nat} {v:Value} (U:vs[j]? =some v):w.cell? ⟨b,j,none⟩=some v:=by
 simp only [World.cell?,hb]
 simp_all
theorem Nl:∀{l:List V} {b o:Nat},Db I st w->Hn I b o l->∃vs,Ar I l vs/\∀j v,vs[j]? =some v->w.cell? ⟨b,o+j,none⟩=some v
 |[],b,o,U,k=>⟨[],PP,λj v e=>by simp at e⟩
 |u::r,b,o,U,k=>by
  simp only [Hn] at k
  obtain ⟨⟨c,h1,h2⟩,k2⟩:=k
  obtain ⟨vs,h3,h4⟩:=Nl U k2
  refine ⟨c::vs,by simp only [Ar];grind,λj v e=>?_⟩
  cases j with
  |zero=>simp at e;subst e;exact U.cell _ _ _ h1
  |succ j=>
   grind
theorem cI {t:TypeId} {x:Operand} (hT:HG P T) (hK:Dd D I0 st0 w0 β env.BS a o.dst next K) (h:Rel D I0 st0 w0 I β env st a w) (ho:o.op=.load t x)
 (k:match env.eval x with
 | .Cd id off=>match assoc env.boxes id with
   |some cs=>DS cs off (assoc T t) (λv=>K v env st)
   |none=>False
 | .ptr b off=>∃cs,st.box b=some cs/\DS cs off (assoc T t) (λv=>K v env st)
 | .HK e off=>DS e off (assoc T t) (λv=>K v env st)
 |_=>False):o.wp P a w next Qc:=by
 have U:=h.f.eval x
 have fin:∀{ad:Addr} {c:Value} {v:V},a.eval x=.pointer (some ad)->(loadVar t ad).run P w=.ok c w->A0 I v c->K v env st->o.wp P a w next Qc:=by
  intro ad c v e1 e2 e3 e4
  refine AX hK (c:=c) (w':=w) ?_ h (Bg.of e3) e4
  simp only [execOp,ho,Instr.loadAt,e1,Instr.sureAddr,Sem.run_bind,Sem.run_pure,Result.andThen_ok,e2]
 split at k
 .rename_i id off he
  rw [he] at U
  obtain ⟨b,hb,U⟩:=It U
  split at k
  .rename_i cs hcs
   obtain ⟨b',h1,h2⟩:=h.f.box id cs hcs
   rw [hb] at h1
   injection h1 with h1
   subst h1
   obtain ⟨vs,ty,h2,h3⟩:=h2.cells (MH k)
   obtain ⟨v,c,g1,g2,g3⟩:=EU (b:=b) (o:=0) hT h3 (λj v e=>by simpa using JO h2 e) k
   grind
  simp_all
 .rename_i b off he
  rw [he] at U
  have U:=Om U
  obtain ⟨cs,hcs,k⟩:=k
  obtain ⟨vs,ty,h2,h3⟩:=h.s.box b cs hcs
  obtain ⟨v,c,g1,g2,g3⟩:=EU (b:=b) (o:=0) hT h3 (λj v e=>by simpa using JO h2 e) k
  grind
 .rename_i e off he
  rw [he] at U
  obtain ⟨b,o',U,hc⟩:=SN U
  obtain ⟨vs,h3,h4⟩:=Nl h.s hc
  obtain ⟨v,c,g1,g2,g3⟩:=EU hT h3 h4 k
  grind
 simp_all
theorem ti {t:TypeId} {ty:Ty} (h:OJ P t ty):∃i,P.info? t=some i/\i.size=ty.zero.cells.length:=by
 cases ty with
 |struct offs z=>obtain ⟨i,fields,zs,U,h2,h3,_⟩:=h;exact ⟨i,U,h3⟩
 |arr offs z=>obtain ⟨i,n,e,j,zs,U,h2,h3,_⟩:=h;exact ⟨i,U,h3⟩
 |sc z=>obtain ⟨i,d,c,U,h2,h3,h4,h5,h6,h7,h8,h9,_⟩:=h;exact ⟨i,U,by rw [h4];show 1=z.cells.length;simp_all⟩
 |slice e sz b=>obtain ⟨i,j,c,U,h2,h3,_⟩:=h;exact ⟨i,U,h3⟩
theorem MN {t:TypeId} {ty:Ty} (hty:OJ P t ty) {cs:List V} {vs:List Value} {b off:Nat} {v:V} {c:Value} {U:TypeId} {K:List V->Prop}
 (hb:w.heap[b]? =some (.cells vs.toArray U (0,0))) (hk:Ar I cs vs) (hv:A0 I v c) (hkn:v.known=true) (hsz:v.cells.length=ty.zero.cells.length) (k:GC cs off v.cells K):
 ∃cs' us,(storeVar t ⟨b,off,none⟩ c).run P w=.ok () (w.setRow b us.toArray)/\Ar I cs' us/\K cs':=by
 unfold GC at k
 obtain ⟨_,k⟩:=AE.1 k
 obtain ⟨h1,k⟩:=AE.1 k
 obtain ⟨h2,k⟩:=AE.1 k
 have k:=Bq.1 k
 have h1:=Nat.le_of_ble_eq_true h1
 have hc:=F7 hv hkn
 have hlc:=Ar.length hc
 have hlv:=Ar.length hk
 obtain ⟨i,hi,hs⟩:=ti hty
 refine ⟨_,_,?_,Ar.append (Ar.append (Ar.take off hk) hc) (Ar.drop (off+v.cells.length) hk),k⟩
 have hrun:=run_storeCells_at P b off U c.cells.toList 0 vs.toArray w hb lm (cE hc h2)
 have hcs:c.cells.size=i.size:=by rw [hs,<-hsz,hlc,Array.length_toList]
 simp only [storeVar,Sem.run_bind,Cu hi,Result.andThen_ok,hcs,ne_eq,not_true_eq_false,if_false,Sem.run_pure,hrun,Nat.add_zero]
 simp_all
theorem ZD {t:TypeId} {x y:Operand} (hT:HG P T) (hK:Dd D I0 st0 w0 β env.BS a o.dst next K) (h:Rel D I0 st0 w0 I β env st a w) (ho:o.op=.store t x y)
 (k:match env.eval x with
 | .Cd id off=>match assoc env.boxes id,assoc T t with
   |some cs,some ty=>match env with
    |⟨ts,bs,n,sz,gl⟩=>(Env.CC T ⟨ts,bs,n,sz,gl⟩ t y).force λv=>Ev (v.known&&Nat.beq v.cells.length ty.zero.cells.length)
     (GC cs off v.cells λcs'=>K .Cc ⟨ts,(id,cs')::bs,n,sz,gl⟩ st)
   |_,_=>False
 | .ptr b off=>match assoc T t with
   |some ty=>∃cs,st.box b=some cs/\(env.CC T t y).force λv=>Ev (v.known&&Nat.beq v.cells.length ty.zero.cells.length)
     (GC cs off v.cells λcs'=>K .Cc env (st.Ab b cs'))
   |none=>False
 |_=>False):o.wp P a w next Qc:=by
 have hx:=h.f.eval x
 have hy:=h.f.CC hT t y
 have fin:∀{ad:Addr} {w':World},a.eval x=.pointer (some ad)->(storeVar t ad (a.eval y)).run P w=.ok () w'->(execOp a.eval o).run P w=.ok .skip w':=by
  intro ad w' e1 e2
  simp only [execOp,ho,Instr.storeAt,e1,Instr.sureAddr,Sem.run_bind,Sem.run_pure,Result.andThen_ok,e2]
 split at k
 .rename_i id off he
  rw [he] at hx
  obtain ⟨b,hb,hx⟩:=It hx
  split at k
  .rename_i cs ty hcs hty
   obtain ⟨b',h1,h2⟩:=h.f.box id cs hcs
   rw [hb] at h1
   injection h1 with h1
   subst h1
   have k:=V.AY.1 k
   obtain ⟨U,k⟩:=AE.1 k
   obtain ⟨vs,ety,h2,h3⟩:=h2.cells (W5 k)
   simp only [Bool.and_eq_true] at U
   obtain ⟨cs',us,g1,g2,g3⟩:=MN (hT t ty hty) h2 h3 (hy.rep (Hq U.1)) U.1 (Nat.eq_of_beq_eq_true U.2) k
   exact eA hK (fin hx g1) (h.cN (cs:=cs) hb h2 g2) g3
  simp_all
 .rename_i b off he
  rw [he] at hx
  have hx:=Om hx
  split at k
  .rename_i ty hty
   obtain ⟨cs,hcs,k⟩:=k
   obtain ⟨vs,ety,h2,h3⟩:=h.s.box b cs hcs
   have k:=V.AY.1 k
   obtain ⟨U,k⟩:=AE.1 k
   simp only [Bool.and_eq_true] at U
   obtain ⟨cs',us,g1,g2,g3⟩:=MN (hT t ty hty) h2 h3 (hy.rep (Hq U.1)) U.1 (Nat.eq_of_beq_eq_true U.2) k
   exact eA hK (fin hx g1) (h.P9 hcs h2 g2) g3
  simp_all
 simp_all
theorem S5 {x:Operand} (hK:Dd D I0 st0 w0 β env.BS a o.dst next K) (h:Rel D I0 st0 w0 I β env st a w) (ho:o.op=.nilCheck x)
 (k:match env.eval x with
 | .Cd id off=>K (.Cd id off) env st
 | .ptr b off=>K (.ptr b off) env st
 | .HK e off=>K (.HK e off) env st
 |_=>False):o.wp P a w next Qc:=by
 have hx:=h.f.eval x
 split at k
 .rename_i id off he
  rw [he] at hx
  obtain ⟨b,hb,U⟩:=It hx
  exact AX hK (c:=a.eval x) (w':=w) (by simp only [execOp,ho,U];rfl) h hx k
 .rename_i b off he
  rw [he] at hx
  have U:=Om hx
  exact AX hK (c:=a.eval x) (w':=w) (by simp only [execOp,ho,U];rfl) h hx k
 .rename_i e off he
  rw [he] at hx
  obtain ⟨b,o',U,_⟩:=SN hx
  exact AX hK (c:=a.eval x) (w':=w) (by simp only [execOp,ho,U];rfl) h hx k
 simp_all
theorem Qr {t:TypeId} {x:Operand} {f:Nat} (hT:HG P T) (hK:Dd D I0 st0 w0 β env.BS a o.dst next K) (h:Rel D I0 st0 w0 I β env st a w) (ho:o.op=.fieldAddr t x f)
 (k:match assoc T t,env.eval x with
 |some (.struct U _),.Cd id off=>match U[f]? with|some (o,s)=>Ev (Nat.blt 0 s) (K (.Cd id (off+o)) env st)|none=>False
 |some (.struct U _),.ptr b off=>match U[f]? with|some (o,s)=>Ev (Nat.blt 0 s) (K (.ptr b (off+o)) env st)|none=>False
 |some (.struct U _),.HK e off=>match U[f]? with|some (o,s)=>Ev (Nat.blt 0 s) (K (.HK e (off+o)) env st)|none=>False
 |_,_=>False):o.wp P a w next Qc:=by
 have hx:=h.f.eval x
 have fin:∀{U:List (Nat×Nat)} {z:List V} {b off o' s:Nat},assoc T t=some (.struct U z)->U[f]? =some (o',s)->0<s->a.eval x=.pointer (some ⟨b,off,none⟩)->
  (execOp a.eval o).run P w=.ok (.value (.pointer (some ⟨b,off+o',none⟩))) w:=by
  intro U z b off o' s ht hf hs e
  obtain ⟨i,fields,zs,h1,h2,h3,h4,h5,h6,h7,_⟩:=hT t _ ht
  obtain ⟨fl,j,g1,g2,g3,g4⟩:=h7 f o' s hf
  have hne:¬j.size=0:=H1
  simp only [execOp,ho,Instr.fieldAt,Sem.run_bind,AL h2,Result.andThen_ok,g1,e,Instr.sureAddr,Sem.run_pure,fieldPlace,Cu g3,Sem.run_ite]
  rw [if_neg hne]
  simp only [Result.andThen_ok,Di,g2]
 split at k
 .rename_i U z id off ht he
  rw [he] at hx
  obtain ⟨b,hb,hx⟩:=It hx
  split at k
  .rename_i o' s hf
   obtain ⟨hs,k⟩:=AE.1 k
   exact AX hK (fin ht hf lm hx) h (show Bg I β (.Cd id (off+o')) _ from ⟨b,hb,rfl⟩) k
  simp_all
 .rename_i U z b off ht he
  rw [he] at hx
  have hx:=Om hx
  split at k
  .rename_i o' s hf
   obtain ⟨hs,k⟩:=AE.1 k
   exact AX hK (fin ht hf lm hx) h (Bg.of PP) k
  simp_all
 .rename_i U z e off ht he
  rw [he] at hx
  obtain ⟨b,o1,hx,hc⟩:=SN hx
  split at k
  .rename_i o' s hf
   obtain ⟨hs,k⟩:=AE.1 k
   exact AX hK (fin ht hf lm hx) h (Bg.of (by simp only [A0];grind)) k
  simp_all
 simp_all
end
section
variable {D:List Deferred} {P:Program} {T:List (Nat×Ty)} {C:FuncId->List V->St->(AD->St->Prop)->Prop} {I0 I:Mem} {st0 st:St} {w0 w:World} {β:Nat->Option Nat} {env:Env} {a:Act}
variable {o:Oper} {K:V->Env->St->Prop} {Q:AG->Env->St->Prop} {next:Act->World->Prop} {Qc:Exit->Act->World->Prop}
theorem cL {op:UnOp} {t:TypeId} {x:Operand} (hK:Dd D I0 st0 w0 β env.BS a o.dst next K) (h:Rel D I0 st0 w0 I β env st a w)
 (k:match op,env.eval x with
 | .not,.bool b=>lit b (K (.bool false) env st) (K (.bool true) env st)
 | .neg,.int k n=>∃r,r=k.wrap (0 - n)/\K (.int k r) env st
 |_,_=>False) (ho:o.op=.unOp op t x):o.wp P a w next Qc:=by
 have U:=h.f.eval x
 split at k
 .rename_i b he
  rw [he] at U
  have U:=J1 U
  refine AX hK (c:=.bool (!b)) (w':=w) (v:=.bool (!b)) (by simp only [execOp,ho,U];rfl) h (Bg.of PP) ?_
  cases b<;>exact k
 .rename_i kd n he
  rw [he] at U
  have U:=Hj U
  obtain ⟨r,rfl,k⟩:=k
  exact AX hK (c:=.int kd (kd.wrap (0 - n))) (w':=w) (by simp only [execOp,ho,U];rfl) h (Bg.of PP) k
 simp_all
theorem S3 {f:FuncId} {first cap:Array Operand} (hK:Dd D I0 st0 w0 β env.BS a o.dst next K) (h:Rel D I0 st0 w0 I β env st a w) (ho:o.op=.makeFunc (.func f) first cap)
 (k:Xn env first.toList λx=>Xn env cap.toList λc=>K (.func f x c) env st):o.wp P a w next Qc:=by
 obtain ⟨v1,U,k⟩:=GP h.f k
 obtain ⟨v2,h2,k⟩:=GP h.f k
 refine AX hK (c:=.func (.func f) (first.map a.eval) (cap.map a.eval)) (w':=w) (by simp only [execOp,ho];rfl) h (Bg.of ?_) k
 simp only [A0]
 exact ⟨first.toList.map a.eval,cap.toList.map a.eval,by congr 1<;>(apply Array.ext';simp),U,h2⟩
theorem TG {x:Operand} {i:Nat} (hK:Dd D I0 st0 w0 β env.BS a o.dst next K) (h:Rel D I0 st0 w0 I β env st a w) (ho:o.op=.extract x i)
 (k:match env.eval x with
 | .Bl vs=>match vs[i]? with|some v=>v.force λv=>K v env st|none=>False
 |_=>False):o.wp P a w next Qc:=by
 have hx:=h.f.eval x
 split at k
 .rename_i vs he
  rw [he] at hx
  have U:A0 I (.Bl vs) (a.eval x):=hx
  simp only [A0] at U
  obtain ⟨cs,e,hl⟩:=U
  split at k
  .rename_i v hv
   obtain ⟨c,h1,h2⟩:=Ar.get hl hv
   refine AX hK (c:=c) (w':=w) ?_ h (Bg.of h2) (V.AY.1 k)
   simp only [execOp,ho,e,Instr.extract]
   simp_all
  simp_all
 simp_all
theorem Zy {t:TypeId} {x:Operand} {f:Nat} (hT:HG P T) (hK:Dd D I0 st0 w0 β env.BS a o.dst next K) (h:Rel D I0 st0 w0 I β env st a w) (ho:o.op=.field t x f)
 (k:match assoc T t,env.eval x with
 |some (.struct U _),.agg cs=>match U[f]? with
  |some (o,1)=>match cs[o]? with|some v=>v.force λv=>K v env st|none=>False
  |_=>False
 |_,_=>False):o.wp P a w next Qc:=by
 have hx:=h.f.eval x
 split at k
 .rename_i U z cs ht he
  rw [he] at hx
  have hx':A0 I (.agg cs) (a.eval x):=hx
  simp only [A0] at hx'
  obtain ⟨vs,e,hl⟩:=hx'
  split at k
  .rename_i o' hf
   split at k
   .rename_i v hv
    obtain ⟨c,h1,h2⟩:=Ar.get hl hv
    obtain ⟨i,fields,zs,g1,g2,g3,g4,g5,g6,g7,g8,g9⟩:=hT t _ ht
    obtain ⟨fl,d,q1,q2,q3,q4⟩:=g9 f o' hf
    refine AX hK (c:=c) (w':=w) ?_ h (Bg.of h2) (V.AY.1 k)
    have hc:vs.toArray[o']? =some c:=by simpa using h1
    simp only [execOp,ho,e,Instr.field,Sem.run_bind,AL g2,Result.andThen_ok,q1,asAgg,Sem.run_pure,q2]
    unfold part
    simp only [Sem.run_bind,Mj q3,q4,Result.andThen_ok,hc,Bool.false_eq_true,if_false]
    rfl
   simp_all
  simp_all
 simp_all
theorem Qs {t:TypeId} {x i:Operand} (hT:HG P T) (hK:Dd D I0 st0 w0 β env.BS a o.dst next K) (h:Rel D I0 st0 w0 I β env st a w) (ho:o.op=.indexAddr t x i)
 (k:match assoc T t,env.eval x,env.eval i with
 |some (.slice _ sz' _),.slice sz es _,.int _ n=>Ev (Nat.beq sz' sz) (0<=n/\∃e,es[n.toNat]? =some e/\K (.HK e 0) env st)
 |some (.slice _ sz' _),.Eg sz b m _,.int _ n=>Ev (Nat.beq sz' sz) ((0<=n/\n<(m:Int))/\∀k,k=n.toNat*sz->K (.ptr b k) env st)
 |some (.arr offs _),.Cd id off,.int _ n=>(match n with
  | .ofNat m=>(match offs[m]? with|some (o,_)=>K (.Cd id (off+o)) env st|none=>False)
  | .negSucc _=>False)
 |_,_,_=>False):o.wp P a w next Qc:=by
 have hx:=h.f.eval x
 have hi:=h.f.eval i
 split at k
 .rename_i el sz' by' sz es own kd n ht hex hei
  rw [hex] at hx
  rw [hei] at hi
  have hi:=Hj hi
  obtain ⟨hsz,h0,e,he,k1⟩:=AE.1 k
  clear k
  have hsz:=Nat.eq_of_beq_eq_true hsz
  subst hsz
  obtain ⟨ad,cap,e1,e2,e3,e4,e5,e6⟩:=G0 hx
  obtain ⟨i0,j,c,h1,h2,h3,h4,h5,h6,h7,h8,_⟩:=hT t _ ht
  have hlt:n.toNat<es.length:=by
   rcases Nat.lt_or_ge n.toNat es.length with h|h
   .exact h
   .simp_all
  cases ad with
  |none=>omega
  |some ad=>
   obtain ⟨b,off,spot⟩:=ad
   simp only at e6
   obtain ⟨e0,e6⟩:=e6
   obtain rfl:spot=none:=e0.resolve_left H1
   obtain ⟨g1,g2⟩:=CQ.get e6 he
   refine AX hK (c:=.pointer (some ⟨b,off+n.toNat*sz',none⟩)) (w':=w) (v:=.HK e 0) ?_ h (Bg.of (by simp only [A0];grind)) k1
   have U:(0<=n/\n<(es.length:Int)):=⟨h0,H1⟩
   simp only [execOp,ho,Instr.indexAt,hi,e1,asIntOf,Sem.run_bind,Sem.run_pure,Result.andThen_ok,AL h2]
   rw [if_pos U]
   simp only [Sem.run_bind,Cu h5,h6,Result.andThen_ok,Sem.run_pure,Di]
 .rename_i el sz' by' sz b m cap kd n ht hex hei
  rw [hex] at hx
  rw [hei] at hi
  have hi:=Hj hi
  obtain ⟨hsz,U,k1⟩:=AE.1 k
  clear k
  have hsz:=Nat.eq_of_beq_eq_true hsz
  subst hsz
  obtain ⟨e1,e2,e3,e4⟩:=Ol hx
  obtain ⟨i0,j,c,h1,h2,h3,h4,h5,h6,h7,h8,_⟩:=hT t _ ht
  refine AX hK (c:=.pointer (some ⟨b,n.toNat*sz',none⟩)) (w':=w) (v:=.ptr b (n.toNat*sz')) ?_ h (Bg.of PP) (k1 _ rfl)
  simp only [execOp,ho,Instr.indexAt,hi,e1,asIntOf,Sem.run_bind,Sem.run_pure,Result.andThen_ok,AL h2]
  rw [if_pos U]
  simp only [Sem.run_bind,Cu h5,h6,Result.andThen_ok,Sem.run_pure,Di,Nat.zero_add]
 .rename_i offs z id off kd n ht hex hei
  rw [hex] at hx
  rw [hei] at hi
  replace hi:=Hj hi
  obtain ⟨b,hb,hx⟩:=It hx
  split at k
  .rename_i m
   split at k
   .rename_i p f s hf
    obtain ⟨i0,len,e,j,zs,h1,h2,h3,h4,h5,h6,h7⟩:=hT t _ ht
    obtain ⟨q1,_,q3⟩:=h7 m f s hf
    subst q1
    refine AX hK (c:=.pointer (some ⟨b,off+m*j.size,none⟩)) (w':=w) ?_ h (show Bg I β (.Cd id (off+m*j.size)) _ from ⟨b,hb,rfl⟩) k
    have U:(0<=(m:Int)/\(m:Int)<(len:Int)):=⟨H1,H1⟩
    simp only [execOp,ho,Instr.indexAt,hi,hx,asIntOf,Sem.run_bind,Sem.run_pure,Result.andThen_ok,AL h2,Instr.sureAddr,Int.ofNat_eq_natCast]
    rw [if_pos U]
    simp only [Sem.run_bind,Cu h6,Result.andThen_ok,Sem.run_pure,Di,Int.toNat_natCast]
   .exact k.elim
  .exact k.elim
 simp_all
theorem Zz {t:TypeId} {x i:Operand} (hT:HG P T) (hK:Dd D I0 st0 w0 β env.BS a o.dst next K) (h:Rel D I0 st0 w0 I β env st a w) (ho:o.op=.index t x i)
 (k:match assoc T t,env.eval x,env.eval i with
 |some (.sc (.str _)),.str s,.int _ n=>0<=n/\∃e,s[n.toNat]? =some e/\K (.int .u8 e.toNat) env st
 |_,_,_=>False):o.wp P a w next Qc:=by
 have hx:=h.f.eval x
 have hi:=h.f.eval i
 split at k
 .rename_i z s kd n ht hex hei
  rw [hex] at hx
  rw [hei] at hi
  have hi:=Hj hi
  obtain ⟨hx,hlen⟩:=V6 hx
  obtain ⟨h0,e,he,k⟩:=k
  obtain ⟨i0,d,c,h1,h2,h3,h4,h5,h6,h7,h8,h9,U⟩:=hT t _ ht
  simp only at U
  subst U
  refine AX hK (c:=.int .u8 e.toNat) (w':=w) (v:=.int .u8 e.toNat) ?_ h (Bg.of PP) k
  have hg:(⟨s.toArray⟩:ByteArray)[n.toNat]? =some e:=by
   have hlt:n.toNat<s.length:=by
    rcases Nat.lt_or_ge n.toNat s.length with h|h
    .exact h
    .simp_all
   rw [getElem?_pos (⟨s.toArray⟩:ByteArray) n.toNat (by show n.toNat<s.toArray.size;omega)]
   show some (s.toArray[n.toNat])=some e
   rw [List.getElem?_eq_getElem hlt] at he
   simpa using he
  simp only [execOp,ho,Instr.index,hi,hx,asIntOf,Sem.run_bind,Sem.run_pure,Result.andThen_ok,AL h2]
  simp_all
 simp_all
theorem J4 {n:Int} {y:Nat} {kd:IntKind} {code:BoundsCode} (h:0<=n/\n<=(y:Int)):(Instr.sliceBound (.int kd n) y code).run P w=.ok n.toNat w:=by
 simp only [Instr.sliceBound,asIntOf,Sem.run_bind,Sem.run_pure,Result.andThen_ok]
 simp_all
theorem OR {len cap:Nat} {lo hi:Option Operand} {kl kh:IntKind} {l h:Int} (hF:Rel D I0 st0 w0 I β env st a w) (isS:Bool)
 (U:(lo.map env.eval).getD (.int .i64 0)=.int kl l) (hh:(hi.map env.eval).getD (.int .i64 len)=.int kh h)
 (h0:0<=l) (h1:l<=h) (h2:h<=(len:Int)) (h3:len<=cap):
 (Instr.sliceBounds isS len cap (lo.map a.eval) (hi.map a.eval) none).run P w=.ok (l.toNat,h.toNat,cap) w:=by
 have hhi:∀x,hi=some x->a.eval x=.int kh h:=λx e=>by
  subst e
  simp only [Option.map_some,Option.getD_some] at hh
  have:=hF.f.eval x
  rw [hh] at this
  exact Hj this
 have hlo:∀x,lo=some x->a.eval x=.int kl l:=λx e=>by
  subst e
  simp only [Option.map_some,Option.getD_some] at U
  have:=hF.f.eval x
  rw [U] at this
  exact Hj this
 have b1:∀code:BoundsCode,(Instr.sliceBound (.int kh h) cap code).run P w=.ok h.toNat w:=λcode=>J4 ⟨H1,H1⟩
 have b2:∀code:BoundsCode,(Instr.sliceBound (.int kl l) h.toNat code).run P w=.ok l.toNat w:=λcode=>J4 ⟨H1,H1⟩
 cases hi with
 |none=>
  simp only [Option.map_none,Option.getD_none,V.int.injEq] at hh
  obtain ⟨_,rfl⟩:=hh
  simp only [Int.toNat_natCast] at b2 |-
  cases lo with
  |none=>
   simp only [Option.map_none,Option.getD_none,V.int.injEq] at U
   obtain ⟨_,rfl⟩:=U
   rfl
  |some x=>
   simp only [Instr.sliceBounds,Option.map_some,Option.map_none,hlo x rfl,Sem.run_bind,Sem.run_pure,Result.andThen_ok,b2]
 |some y=>
  cases lo with
  |none=>
   simp only [Option.map_none,Option.getD_none,V.int.injEq] at U
   obtain ⟨_,rfl⟩:=U
   simp only [Instr.sliceBounds,Option.map_some,Option.map_none,hhi y rfl,Sem.run_bind,Sem.run_pure,Result.andThen_ok,b1]
   rfl
  |some x=>
   simp only [Instr.sliceBounds,Option.map_some,hhi y rfl,hlo x rfl,Sem.run_bind,Sem.run_pure,Result.andThen_ok,b1,b2]
theorem ZC {t:TypeId} {x:Operand} {lo hi:Option Operand} (hT:HG P T) (hK:Dd D I0 st0 w0 β env.BS a o.dst next K) (h:Rel D I0 st0 w0 I β env st a w) (ho:o.op=.slice t x lo hi none)
 (k:match assoc T t,env.eval x with
 |some (.slice _ sz' _),.slice sz es _=>
  match (lo.map env.eval).getD (.int .i64 0),(hi.map env.eval).getD (.int .i64 es.length) with
  | .int _ l,.int _ h=>Ev (Nat.beq sz' sz) ((0<=l/\l<=h/\h<=es.length)/\∀es',es'=(es.take h.toNat).drop l.toNat->K (.slice sz es' .any) env st)
  |_,_=>False
 |some (.sc (.str _)),.str s=>
  match (lo.map env.eval).getD (.int .i64 0),(hi.map env.eval).getD (.int .i64 s.length) with
  | .int _ l,.int _ h=>(0<=l/\l<=h/\h<=s.length)/\∀s',s'=(s.take h.toNat).drop l.toNat->K (.str s') env st
  |_,_=>False
 |some (.slice _ sz' _),.Eg sz b n cap=>
  match (lo.map env.eval).getD (.int .i64 0),(hi.map env.eval).getD (.int .i64 n) with
  | .int _ l,.int _ h=>Ev (Nat.beq sz' sz) ((l=0/\0<=h/\h<=n)/\∀k,k=h.toNat->K (.Eg sz b k cap) env st)
  |_,_=>False
 |_,_=>False):o.wp P a w next Qc:=by
 have hx:=h.f.eval x
 split at k
 .rename_i el sz' by' sz es own ht hex
  rw [hex] at hx
  split at k
  .rename_i kl l kh hh hel heh
   obtain ⟨U,⟨h0,h1,h2⟩,k1⟩:=AE.1 k
   clear k
   have k1:=k1 _ rfl
   have U:=Nat.eq_of_beq_eq_true U
   subst U
   obtain ⟨ad,cap,e1,e2,e3,e4,e5,e6⟩:=G0 hx
   obtain ⟨i0,j,c,g1,g2,g3,g4,g5,g6,g7,g8,_⟩:=hT t _ ht
   have hb:=OR (P:=P) (cap:=cap) h true hel heh h0 h1 h2 e2
   have hlen:((es.take hh.toNat).drop l.toNat).length=hh.toNat - l.toNat:=i6
   refine AX hK (c:=.slice (if cap=l.toNat then ad else ad.map (·.add (l.toNat*sz'))) (hh.toNat - l.toNat) (cap - l.toNat)) (w':=w) ?_ h (Bg.of ?_) k1
   .have hu:(underlying t).run P w=.ok (.slice el) w:=AL g2
    simp only [execOp,ho,Instr.sliceAt,Option.map_none,Sem.run_bind,hu,Result.andThen_ok,Instr.slice,e1,hb,Cu g5,g6,Sem.run_pure]
   .simp only [A0]
    refine ⟨_,cap - l.toNat,by rw [hlen],H1,H1,e4,trivial,?_⟩
    cases ad with
    |none=>grind
    |some ad=>
     simp only at e6
     obtain ⟨s1,s2⟩:=e6
     split
     .grind
     .rename_i ad' hc
      split at hc
      .rename_i hcap
       injection hc with hc
       subst hc
       refine ⟨.inl H1,?_⟩
       have:(es.take hh.toNat).drop l.toNat=[]:=List.eq_nil_of_length_eq_zero H1
       rw [this];simp only [CQ]
      .simp only [Option.map_some,Option.some.injEq] at hc
       subst hc
       rename_i hne
       obtain ⟨b,off,spot⟩:=ad
       obtain rfl:spot=none:=s1.resolve_left H1
       rw [Di]
       exact ⟨.inr rfl,CQ.drop _ (CQ.take _ s2)⟩
  simp_all
 .rename_i z s ht hex
  rw [hex] at hx
  obtain ⟨hx,hlim⟩:=V6 hx
  split at k
  .rename_i kl l kh hh hel heh
   obtain ⟨⟨h0,h1,h2⟩,k⟩:=k
   have k:=k _ rfl
   obtain ⟨i0,d,c,g1,g2,g3,g4,g5,g6,g7,g8,g9,g10⟩:=hT t _ ht
   simp only at g10
   subst g10
   have hb:=OR (P:=P) (cap:=s.length) h false hel heh h0 h1 h2 (Nat.le_refl _)
   refine AX hK (c:=.string ⟨((s.take hh.toNat).drop l.toNat).toArray⟩) (w':=w) ?_ h (Bg.of (by simp only [A0];grind)) k
   have hu:(underlying t).run P w=.ok .string w:=AL g2
   have hs:(⟨s.toArray⟩:ByteArray).size=s.length:=by show s.toArray.size=_;simp
   simp only [execOp,ho,Instr.sliceAt,Option.map_none,Sem.run_bind,hu,Result.andThen_ok,Instr.slice,hx,Option.isSome_none,Bool.false_eq_true,if_false,Sem.run_pure,hs,hb]
   congr 3
   apply ByteArray.ext
   apply Array.ext'
   simp [ByteArray.data_extract,List.drop_take]
  simp_all
 .rename_i el sz' by' sz b n cap ht hex
  rw [hex] at hx
  split at k
  .rename_i kl l kh hh hel heh
   obtain ⟨U,⟨h0,h1,h2⟩,k1⟩:=AE.1 k
   clear k
   have k1:=k1 _ rfl
   have U:=Nat.eq_of_beq_eq_true U
   subst U
   obtain ⟨e1,e2,e3,e4⟩:=Ol hx
   obtain ⟨i0,j,c,g1,g2,g3,g4,g5,g6,g7,g8,_⟩:=hT t _ ht
   have hb:=OR (P:=P) (cap:=cap) h true hel heh H1 H1 h2 e2
   subst h0
   refine AX hK (c:=.slice (some ⟨b,0,none⟩) hh.toNat cap) (w':=w) ?_ h (Bg.of ?_) k1
   .have hu:(underlying t).run P w=.ok (.slice el) w:=AL g2
    simp only [execOp,ho,Instr.sliceAt,Option.map_none,Sem.run_bind,hu,Result.andThen_ok,Instr.slice,e1,hb,Cu g5,g6,Sem.run_pure]
    have ha:(⟨b,0,none⟩:Addr).add 0=⟨b,0,none⟩:=by rw [Di]
    simp_all
   .simp only [A0]
    grind
  simp_all
 simp_all
end
end Go.Aw
