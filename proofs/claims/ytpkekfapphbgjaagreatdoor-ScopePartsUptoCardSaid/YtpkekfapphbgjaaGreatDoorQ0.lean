/-
  Parts of a proof: lemmas that the last text uses.
-/
import Derived.Tactics
import Derived.Laws.Cells
import Derived.Shelf.Unicode.DecodeSlow
import Derived.Lib.Space
import Derived.Laws.CopyRow
import Derived.ChangeKeysEq
import Derived.Laws.StructEq
import Derived.Laws.Append
import Derived.Laws.AppendOwn
import Derived.Laws.Strings
import Derived.ScopeJumps
import Derived.Laws.MakeOwn
set_option linter.unusedVariables false
set_option linter.unusedSimpArgs false
set_option maxHeartbeats 16000000
theorem AC {P:Prop} (h:P:=by omega):P:=h
theorem Do {P:Prop} (h:P:=by decide):P:=h
theorem EQ {P:Prop} (h:P:=by kernel_rfl):P:=h
theorem FS {P:Prop} (h:P:=by assumption):P:=h
theorem GE {P:Prop} (h:P:=by decide +kernel):P:=h
theorem GT {P:Prop} (h:P:=by simp):P:=h
theorem H1 {P:Prop} (h:P:=by rfl):P:=h
theorem H9 {P:Prop} (h:P:=by first|assumption|omega):P:=h
theorem IR {P:Prop} (h:P:=by rw [List.length_drop];omega):P:=h
theorem NE {P:Prop} (h:P:=by rw [List.length_take];omega):P:=h
theorem RK {P:Prop} (h:P:=by simp only [List.length_append,List.length_cons,List.length_nil];omega):P:=h
theorem RL {P:Prop} (h:P:=by simp only [List.length_append,List.length_cons,List.length_nil]<;>omega):P:=h
theorem So {P:Prop} (h:P:=by dsimp only;omega):P:=h
theorem UV {P:Prop} (h:P:=by simp;omega):P:=h
theorem bl {P:Prop} (h:P:=by first|omega|(dsimp only<;>omega)):P:=h
theorem cb {P:Prop} (h:P:=by first|omega|(simp only [List.length_append,List.length_cons,List.length_nil]<;>omega)|(dsimp only<;>omega)):P:=h
theorem f8 {P:Prop} (h:P:=by first|omega|(simp only [List.length_append,List.length_cons,List.length_nil]<;>omega)):P:=h
theorem i6 {P:Prop} (h:P:=by show 0+_<=_;omega):P:=h
theorem i7 {P:Prop} (h:P:=by simp_all):P:=h
namespace Go.Aw
open Go
inductive AE where
 |any|full|tok (b:Nat)
inductive V where
 |BE
 |bool (b:Bool)
 |int (k:IntKind) (n:Int)
 |str (s:List UInt8)
 |agg (cs:List V)
 |Bp (vs:List V)
 |slice (sz:Nat) (es:List (List V)) (own:AE)
 |ptr (b:Nat) (off:Nat)
 |BO (id:Nat) (off:Nat)
 |Gi (e:List V) (off:Nat)
 |Es
 |func (f:FuncId) (first captured:List V)
 |At
 |iface (t:TypeId) (v:V)
 |Dt
 |Ql (s:List UInt8) (pos:Nat)
 |FP (sz b n cap:Nat)
 |kn (l:Nat)
def V.cells:V->List V
 | .agg cs=>cs
 |v=>[v]
def V.sc:V->Bool
 | .BE| .agg _| .Bp _| .Ql _ _=>false
 |_=>true
def V.plain:V->Bool
 | .BO _ _=>false
 |_=>true
def V.known:V->Bool
 | .BO _ _| .BE| .Ql _ _=>false
 |_=>true
def V.JB:V->V
 | .slice sz es _=>.slice sz es .any
 |v=>v
def V.yc:V->V
 | .slice sz es _=>.slice sz es .any
 | .agg cs=>.agg (cs.map V.JB)
 |v=>v
def V.wk:V->V
 | .slice sz es _=>.slice sz es .any
 | .agg cs=>.agg (cs.map V.JB)
 | .Bp vs=>.Bp (vs.map V.yc)
 |v=>v
structure St where
 box:Nat->Option (List V)
 hw:Nat->Option Nat
def St.Aa (st:St) (b:Nat) (cs:List V):St:={st with box:=λx=>if x=b then some cs else st.box x}
def St.BZ (st:St) (b:Nat) (h:Nat):St:={st with hw:=λx=>if x=b then some h else st.hw x}
def St.Ew (st:St) (b:Nat):St:={st with hw:=λx=>if x=b then none else st.hw x}
def St.fresh (st:St) (b:Nat):Prop:=st.box b=none/\st.hw b=none
def St.le (a b:St):Prop:=(∀x cs,a.box x=some cs->b.box x=some cs)/\∀x h,a.hw x=some h->b.hw x=some h
theorem St.le_refl (a:St):a.le a:=⟨λ_ _ h=>h,λ_ _ h=>h⟩
theorem St.Af {a b:St} (h:a.le b) {x:Nat} (U:a.box x=none) (cs:List V):a.le (b.Aa x cs):=
 ⟨λy c hy=>by
   simp only [St.Aa]
   split
   .simp_all
   .exact h.1 y c hy,h.2⟩
theorem St.Fk {a b:St} (h:a.le b) {x:Nat} (U:a.hw x=none) (n:Nat):a.le (b.BZ x n):=
 ⟨h.1,λy c hy=>by
   simp only [St.BZ]
   split
   .simp_all
   .exact h.2 y c hy⟩
theorem St.le_trans {a b c:St} (h:a.le b) (k:b.le c):a.le c:=⟨λx cs U=>k.1 x cs (h.1 x cs U),λx n U=>k.2 x n (h.2 x n U)⟩
inductive Ty where
 |sc (z:V)
 |slice (elem:TypeId) (sz bytes:Nat)
 |struct (offs:List (Nat×Nat)) (zero:List V)
 |arr (offs:List (Nat×Nat)) (zero:List V)
def Ty.zero:Ty->V
 | .sc z=>z
 | .slice _ sz _=>.slice sz [] .full
 | .struct _ z=>.agg z
 | .arr _ z=>.agg z
noncomputable def assoc {α:Type} (l:List (Nat×α)) (t:Nat):Option α:=
 List.rec (motive:=λ_=>Option α) none (λp _ U=>Bool.rec (motive:=λ_=>Option α) U (some p.2) (Nat.beq p.1 t)) l
theorem Bk {α:Type} (k:Nat) (v:α) (r:List (Nat×α)) (t:Nat):assoc ((k,v)::r) t=bif Nat.beq k t then some v else assoc r t:=by
 show Bool.rec (motive:=λ_=>Option α) (assoc r t) (some v) (Nat.beq k t)=_
 cases Nat.beq k t<;>rfl
structure Env where
 tmps:List (Nat×V)
 boxes:List (Nat×List V)
 Bs:Nat
 sz:Nat
 gl:List Nat
noncomputable def Env.get (e:Env) (t:Nat):V:=match assoc e.tmps t with|some v=>v|none=>.BE
def Gs:Operand->Bool
 | .const (.slice none 0 0)=>true
 |_=>false
def Ra:Value->V
 | .bool b=>.bool b
 | .int k n=>.int k n
 | .string ⟨⟨l⟩⟩=>match Nat.blt l.length 4611686018427387904 with|true=>.str l|false=>.BE
 | .nilFunc=>.At
 | .nilIface=>.Dt
 | .pointer none=>.Es
 |_=>.BE
noncomputable def Env.eval (e:Env):Operand->V
 | .tmp t=>e.get t
 | .const v=>Ra v
 | .func f=>.func f [] []
 | .global _=>.BE
section
variable (T:List (Nat×Ty))
noncomputable def Env.Bu (e:Env) (t:TypeId) (x:Operand):V:=
 match Gs x with
 |true=>match assoc T t with
  |some (.slice _ sz _)=>.slice sz [] .full
  |_=>.BE
 |false=>e.eval x
end
def lit (b:Bool) (p q:Prop):Prop:=match b with|true=>p|false=>q
def DM (b:Bool) (p:Prop):Prop:=match b with|true=>p|false=>False
theorem AH {b:Bool} {p:Prop} (h:b=true) (k:p):DM b p:=by subst h;exact k
theorem As {b:Bool} {p:Prop}:DM b p↔b=true/\p:=by cases b<;>simp [DM]
inductive Bn (b:Bool) (p q:Prop):Prop where
 |mk:(b=true->p)->(b=false->q)->Bn b p q
theorem Wk {b:Bool} {p q:Prop} (h:b=true->p) (k:b=false->q):Bn b p q:=.mk h k
theorem Bg {p q:Prop}:Bn true p q↔p:=⟨λ⟨h,_⟩=>h rfl,λh=>.mk (λ_=>h) (λe=>by cases e)⟩
theorem A8 {p q:Prop}:Bn false p q↔q:=⟨λ⟨_,h⟩=>h rfl,λh=>.mk (λe=>by cases e) (λ_=>h)⟩
theorem Wi {p q:Prop} (h:p):Bn true p q:=Bg.2 h
theorem Wj {p q:Prop} (h:q):Bn false p q:=A8.2 h
def V.force (v:V) (K:V->Prop):Prop:=
 match v with
 | .BE=>K .BE
 | .bool b=>K (.bool b)
 | .int k n=>K (.int k n)
 | .str s=>K (.str s)
 | .agg cs=>K (.agg cs)
 | .Bp vs=>K (.Bp vs)
 | .slice sz es o=>K (.slice sz es o)
 | .ptr b o=>K (.ptr b o)
 | .BO b o=>K (.BO b o)
 | .Gi b o=>K (.Gi b o)
 | .Es=>K .Es
 | .func f a c=>K (.func f a c)
 | .At=>K .At
 | .iface t v=>K (.iface t v)
 | .Dt=>K .Dt
 | .Ql s n=>K (.Ql s n)
 | .FP sz b n c=>K (.FP sz b n c)
 | .kn l=>K (.kn l)
theorem V.AJ {v:V} {K:V->Prop}:v.force K↔K v:=by
 cases v<;>exact Iff.rfl
def V.part (v:V) (K:V->Prop):Prop:=
 match v with
 | .bool b=>Bn b (K (.bool true)) (K (.bool false))
 |v=>v.force K
theorem V.N0 {v:V} {K:V->Prop}:v.part K↔K v:=by
 cases v with
 |bool b=>cases b<;>first|exact A8|exact Bg
 |_=>simp only [V.part,V.AJ]
def eQ (l:List V):(List V->Prop)->Prop:=
 List.rec (motive:=λ_=>(List V->Prop)->Prop) (λK=>K []) (λv _ U K=>v.part λv=>U λr=>K (v::r)) l
theorem cB (v:V) (r:List V) (K:List V->Prop):eQ (v::r) K=v.part λv=>eQ r λr=>K (v::r):=rfl
theorem UG:∀{l:List V} {K:List V->Prop},eQ l K↔K l
 |[],_=>Iff.rfl
 |v::r,K=>by rw [cB,V.N0,UG]
def V.back (v:V) (K:V->Prop):Prop:=
 match v with
 | .Bp vs=>eQ vs λvs=>K (.Bp vs)
 |v=>v.part K
theorem V.Rm {v:V} {K:V->Prop}:v.back K↔K v:=by
 cases v with
 |Bp vs=>exact UG
 |_=>simp only [V.back,V.N0]
def F3 (l:List V):(List V->Prop)->Prop:=
 List.rec (motive:=λ_=>(List V->Prop)->Prop) (λK=>K []) (λv _ U K=>v.force λv=>U λr=>K (v::r)) l
theorem Yv (v:V) (r:List V) (K:List V->Prop):F3 (v::r) K=v.force λv=>F3 r λr=>K (v::r):=rfl
theorem A9:∀{l:List V} {K:List V->Prop},F3 l K↔K l
 |[],_=>Iff.rfl
 |v::r,K=>by rw [Yv,V.AJ,A9]
def Nx (l:List (List V)):(List (List V)->Prop)->Prop:=
 List.rec (motive:=λ_=>(List (List V)->Prop)->Prop) (λK=>K []) (λv _ U K=>F3 v λv=>U λr=>K (v::r)) l
theorem VJ (v:List V) (r:List (List V)) (K:List (List V)->Prop):Nx (v::r) K=F3 v λv=>Nx r λr=>K (v::r):=rfl
theorem Ih:∀{l:List (List V)} {K:List (List V)->Prop},Nx l K↔K l
 |[],_=>Iff.rfl
 |v::r,K=>by rw [VJ,A9,Ih]
inductive Au where
 |ret (v:V)
 |B1 (v:V)
inductive AG where
 |normal|exit (id:Nat)|goto (l:Nat)|ret|B1 (v:V)
def DG:Nat:=4611686018427387904
def XO (env:Env) (l:List Operand):(List V->Prop)->Prop:=
 List.rec (motive:=λ_=>(List V->Prop)->Prop) (λK=>K []) (λx _ U K=>(env.eval x).force λv=>DM v.plain (U λvs=>K (v::vs))) l
theorem Yp (env:Env) (x:Operand) (r:List Operand) (K:List V->Prop):XO env (x::r) K=(env.eval x).force λv=>DM v.plain (XO env r λvs=>K (v::vs)):=rfl
section
variable (T:List (Nat×Ty))
def aW (env:Env) (ts:List TypeId) (l:List Operand):(List V->Prop)->Prop:=
 List.rec (motive:=λ_=>List TypeId->(List V->Prop)->Prop) (λ_ K=>K [])
  (λx _ U ts K=>(env.Bu T (ts.headD 0) x).force λv=>DM v.plain (U ts.tail λvs=>K (v::vs))) l ts
theorem Um (env:Env) (ts:List TypeId) (x:Operand) (r:List Operand) (K:List V->Prop):
 aW T env ts (x::r) K=(env.Bu T (ts.headD 0) x).force λv=>DM v.plain (aW T env ts.tail r λvs=>K (v::vs)):=rfl
end
def bin (op:BinOp) (x y:V) (K:V->Prop):Prop:=
 match x,y with
 | .int k a,.int U b=>
   DM (decide (k=U)) (match op with
   | .add=>∃r,r=k.wrap (a+b)/\K (.int k r)
   | .sub=>∃r,r=k.wrap (a - b)/\K (.int k r)
   | .mul=>∃r,r=k.wrap (a*b)/\K (.int k r)
   | .quo=>b≠0/\∃r,r=k.wrap (a.tdiv b)/\K (.int k r)
   | .rem=>b≠0/\K (.int k (a.tmod b))
   | .and=>∃r,r=k.wrap ((BitVec.ofInt k.bits a&&&BitVec.ofInt k.bits b).toNat:Int)/\K (.int k r)
   | .eql=>Bn (a==b) (K (.bool true)) (K (.bool false))
   | .neq=>Bn (a==b) (K (.bool false)) (K (.bool true))
   | .lss=>Bn (decide (a<b)) (K (.bool true)) (K (.bool false))
   | .leq=>Bn (decide (a<=b)) (K (.bool true)) (K (.bool false))
   | .gtr=>Bn (decide (b<a)) (K (.bool true)) (K (.bool false))
   | .geq=>Bn (decide (b<=a)) (K (.bool true)) (K (.bool false))
   |_=>False)
 | .str a,.str b=>
   match op with
   | .add=>a.length+b.length<DG/\K (.str (a++b))
   | .eql=>Bn (a==b) (K (.bool true)) (K (.bool false))
   | .neq=>Bn (a==b) (K (.bool false)) (K (.bool true))
   |_=>False
 |_,_=>False
def ll (z x y:V):Option Bool:=
 match z,x,y with
 | .int _ _,.int k a,.int U b=>bif decide (k=U) then some (a==b) else none
 | .str _,.str a,.str b=>some (a==b)
 | .bool _,.bool a,.bool b=>some (a==b)
 |_,_,_=>none
noncomputable def rQ (z:List V):List V->List V->Option Bool:=
 List.rec (motive:=λ_=>List V->List V->Option Bool) (λU ys=>match U,ys with|[],[]=>some true|_,_=>none)
  (λz _ ih U ys=>match U,ys with
    |x::U,y::ys=>match ll z x y,ih U ys with
     |some a,some b=>some (a&&b)
     |_,_=>none
    |_,_=>none) z
theorem gP (z:V) (r U ys:List V):rQ (z::r) U ys=match U,ys with
 |x::U,y::ys=>match ll z x y,rQ r U ys with
  |some a,some b=>some (a&&b)
  |_,_=>none
 |_,_=>none:=rfl
def dZ (z:List V):Bool:=z.all λ| .int _ _| .str _| .bool _=>true|_=>false
def isNilIface:Operand->Bool
 | .const .nilIface=>true
 |_=>false
def MG (op:BinOp) (ty:Option Ty) (v:V) (K:V->Prop):Prop:=
 match ty with
 |some (.sc .Dt)=>match op,v with
  | .eql,.Dt=>K (.bool true)
  | .eql,.iface _ _=>K (.bool false)
  | .neq,.Dt=>K (.bool false)
  | .neq,.iface _ _=>K (.bool true)
  |_,_=>False
 |_=>False
def SQ (op:BinOp) (ty:Option Ty) (v:V) (K:V->Prop):Prop:=
 match ty with
 |some (.slice _ _ _)=>match op,v with
  | .eql,.slice _ es _=>∀b:Bool,(b=true->es=[])->K (.bool b)
  | .neq,.slice _ es _=>∀b:Bool,(b=false->es=[])->K (.bool b)
  |_,_=>False
 |_=>False
def U7 (op:BinOp) (ty:Option Ty) (U:List V) (y:V) (K:V->Prop):Prop:=
 match ty,y with
 |some (.struct _ z),.agg ys=>DM (dZ z) (match rQ z U ys with
  |some b=>match op with
   | .eql=>Bn b (K (.bool true)) (K (.bool false))
   | .neq=>Bn b (K (.bool false)) (K (.bool true))
   |_=>False
  |none=>False)
 |_,_=>False
def Qy (op:BinOp) (ty:Option Ty) (a:Bool) (y:V) (K:V->Prop):Prop:=
 match ty,y with
 |some (.sc (.bool _)),.bool b=>match op with
  | .eql=>Bn a (Bn b (K (.bool true)) (K (.bool false))) (Bn b (K (.bool false)) (K (.bool true)))
  | .neq=>Bn a (Bn b (K (.bool false)) (K (.bool true))) (Bn b (K (.bool true)) (K (.bool false)))
  |_=>False
 |_,_=>False
def gb (op:BinOp) (ty:Option Ty) (x y:V) (K:V->Prop):Prop:=
 match x with
 | .agg U=>U7 op ty U y K
 | .bool a=>Qy op ty a y K
 |x=>bin op x y K
def V.NV:V->Bool
 | .Ql _ _=>false
 |_=>true
def NV:List V->Bool
 |[v]=>v.NV
 |_=>true
def Dm (cs:List V) (off:Nat) (ty:Option Ty) (K:V->Prop):Prop:=
 DM (NV cs) (match ty with
 |some (.struct _ z)|some (.arr _ z)=>
  match Nat.beq off 0&&Nat.beq z.length cs.length with
  |true=>K (.agg cs)
  |false=>DM (Nat.ble (off+z.length) cs.length) (F3 ((cs.drop off).take z.length) λl=>K (.agg l))
 |some _=>match cs[off]? with|some v=>v.force K|none=>False
 |none=>False)
def Bm (cs:List V) (off:Nat) (new:List V) (K:List V->Prop):Prop:=
 DM (NV cs) (DM (Nat.ble (off+new.length) cs.length) (DM (new.all V.sc) (F3 (cs.take off++new++cs.drop (off+new.length)) K)))
def Nr (U:List (Nat×Nat)) (cs:List V) (l:List (Nat×V)):(List V->Prop)->Prop:=
 List.rec (motive:=λ_=>List V->(List V->Prop)->Prop) (λcs K=>F3 cs K) (λp _ ih cs K=>match U[p.1]? with
  |some (off,size)=>DM (Nat.beq p.2.cells.length size) (DM (Nat.ble (off+size) cs.length) (ih (cs.take off++p.2.cells++cs.drop (off+size)) K))
  |none=>False) l cs
theorem R4 (U:List (Nat×Nat)) (cs:List V) (i:Nat) (v:V) (r:List (Nat×V)) (K:List V->Prop):Nr U cs ((i,v)::r) K=(match U[i]? with
 |some (off,size)=>DM (Nat.beq v.cells.length size) (DM (Nat.ble (off+size) cs.length) (Nr U (cs.take off++v.cells++cs.drop (off+size)) r K))
 |none=>False):=rfl
def Hl (env:Env) (l:List (Nat×Operand)):(List (Nat×V)->Prop)->Prop:=
 List.rec (motive:=λ_=>(List (Nat×V)->Prop)->Prop) (λK=>K []) (λp _ U K=>(env.eval p.2).force λv=>DM v.known (U λvs=>K ((p.1,v)::vs))) l
theorem Nn (env:Env) (i:Nat) (x:Operand) (r:List (Nat×Operand)) (K:List (Nat×V)->Prop):
 Hl env ((i,x)::r) K=(env.eval x).force λv=>DM v.known (Hl env r λvs=>K ((i,v)::vs)):=rfl
def Ob:Nat->List (Nat×Operand)->Bool
 |_,[]=>true
 |n,(i,_)::r=>Nat.beq i n&&Ob (n+1) r
def Env.Qk (e:Env) (d:Option Nat):Bool:=match d with|some t=>e.gl.any (Nat.beq t)|none=>false
def JO (env:Env) (st:St) (d:Option Nat) (cs:List V) (K:V->Env->St->Prop):Prop:=
 match env.Qk d with
 |true=>F3 cs λcs=>∀b,st.fresh b->K (.ptr b 0) env (st.Aa b cs)
 |false=>F3 cs λcs=>match env with
  |⟨ts,bs,n,sz,gl⟩=>K (.BO n 0) ⟨ts,(n,cs)::bs,n+1,sz,gl⟩ st
def Am (sz bytes:Nat) (es:List (List V)) (own:AE) (new:List (List V)) (st:St) (K:V->St->Prop):Prop:=
 (es.length+new.length)*bytes<=140737488355328/\es.length+new.length<DG/\DM (new.all λv=>v.all V.sc) (
 match own with
 | .any=>False
 | .full=>(new=[]->K (.slice sz es .full) st)/\
    (new≠[]->(∀b,st.fresh b->K (.slice sz (es++new.map (·.map V.JB)) (.tok b)) (st.BZ b ((es.length+new.length)*sz)))\/
      ∀b cap m,st.fresh b->(es.length+new.length)*sz+m=cap*sz->K (.FP sz b (es.length+new.length) cap) (st.Aa b ((es++new.map (·.map V.JB)).flatten++List.replicate m .BE)))
 | .tok b=>st.hw b=some (es.length*sz)/\
    ((∀U,(U=b\/st.fresh U)->K (.slice sz (es++new.map (·.map V.JB)) (.tok U)) ((st.Ew b).BZ U ((es.length+new.length)*sz)))\/K .BE st))
def Hy (sz bytes b n cap:Nat) (new:List (List V)) (st:St) (K:V->St->Prop):Prop:=
 (n+new.length)*bytes<=140737488355328/\n+new.length<DG/\DM (new.all λv=>v.all V.sc) (new≠[]/\∃cs,st.box b=some cs/\cs.length=cap*sz/\
   ∀b' U m,(b'=b\/st.fresh b')->(n+new.length)*sz+m=U*sz->K (.FP sz b' (n+new.length) U) (st.Aa b' (cs.take (n*sz)++(new.map (·.map V.JB)).flatten++List.replicate m .BE)))
def AE.st (st:St) (n:Nat):AE->St
 | .tok b=>st.BZ b n
 |_=>st
def AE.BD (st:St):AE->Prop
 | .full=>True
 | .tok b=>st.fresh b
 | .any=>False
theorem EI {sz bytes:Nat} {es:List (List V)} {own:AE} {new:List (List V)} {st:St} {K:V->St->Prop} (h:own.BD st)
 (h1:(es.length+new.length)*bytes<=140737488355328) (h2:es.length+new.length<DG) (h3:(new.all λv=>v.all V.sc)=true)
 (k:∀U:AE,U.BD st->K (.slice sz (es++new.map (·.map V.JB)) U) (U.st st ((es.length+new.length)*sz))):
 Am sz bytes es own new (own.st st (es.length*sz)) K:=by
 refine ⟨h1,h2,AH h3 ?_⟩
 cases own with
 |any=>exact h.elim
 |full=>exact ⟨λe=>by simp_all,λ_=>.inl λb hb=>k (.tok b) hb⟩
 |tok b=>
  refine ⟨by simp [AE.st,St.BZ],.inl λb' hb'=>?_⟩
  have hf:st.fresh b:=h
  have e:(st.BZ b (es.length*sz)).Ew b=st:=by
   cases st
   simp only [St.BZ,St.Ew,St.mk.injEq,true_and]
   funext x
   split
   .rename_i e;subst e;exact hf.2.symm
   .rfl
  show K _ (((st.BZ b (es.length*sz)).Ew b).BZ b' _)
  rw [e]
  refine k (.tok b') ?_
  rcases hb' with rfl|hb'
  .exact hf
  .refine ⟨hb'.1,?_⟩
   have:=hb'.2
   simp only [AE.st,St.BZ] at this
   grind
theorem AE.Bz {st:St} {own:AE} {n:Nat} (h:own.BD st):st.le (own.st st n):=by
 cases own with
 |any=>exact h.elim
 |full=>exact St.le_refl _
 |tok b=>exact St.Fk (St.le_refl _) (show st.fresh b from h).2 n
section
variable (P:Program) (T:List (Nat×Ty)) (C:FuncId->List V->St->(Au->St->Prop)->Prop)
def AU:List UInt8->Nat×Nat
 |[]=>(0,1)
 |a::l=>
  let cont (k:Nat):Bool:=match l[k]? with|some b=>b.toNat / 64==2|none=>false
  let U (k:Nat):Nat:=(l.getD k 0).toNat
  if a.toNat<128 then (a.toNat,1)
  else if a.toNat / 32==6&&cont 0 then
   (if a.toNat % 32*64+U 0 % 64>=128 then (a.toNat % 32*64+U 0 % 64,2) else (65533,1))
  else if a.toNat / 16==14&&cont 0&&cont 1 then
   (if a.toNat % 16*4096+U 0 % 64*64+U 1 % 64>=2048&&Utf8.valid ((a.toNat % 16*4096+U 0 % 64*64+U 1 % 64:Nat):Int) then (a.toNat % 16*4096+U 0 % 64*64+U 1 % 64,3) else (65533,1))
  else if a.toNat / 8==30&&cont 0&&cont 1&&cont 2 then
   (if a.toNat % 8*262144+U 0 % 64*4096+U 1 % 64*64+U 2 % 64>=65536&&Utf8.valid ((a.toNat % 8*262144+U 0 % 64*4096+U 1 % 64*64+U 2 % 64:Nat):Int) then (a.toNat % 8*262144+U 0 % 64*4096+U 1 % 64*64+U 2 % 64,4) else (65533,1))
  else (65533,1)
def Gj (o:Oper) (env:Env) (st:St) (K:V->Env->St->Prop) (Q:AG->Env->St->Prop):Prop:=
 match o.op with
 | .move x| .assign x=>(env.Bu T o.type x).force λv=>K v env st
 | .pick c a b=>match env.eval c with
   | .bool t=>lit t ((env.Bu T o.type a).force λv=>K v env st) ((env.Bu T o.type b).force λv=>K v env st)
   |_=>False
 | .alloc t=>match assoc T t with
   |some ty=>JO env st o.dst ty.zero.cells K
   |none=>False
 | .box t x=>(env.Bu T t x).force λv=>DM v.known (JO env st o.dst v.cells K)
 | .build t parts=>match assoc T t with
   |some (.struct U z)=>Hl env parts.toList λps=>Nr U z ps λcs=>K (.agg cs) env st
   |some (.arr U z)=>Hl env parts.toList λps=>Nr U z ps λcs=>K (.agg cs) env st
   |_=>False
 | .buildSlice t len parts=>match assoc T t with
   |some (.slice _ sz _)=>DM (Ob 0 parts.toList) (DM (Nat.beq len parts.toList.length) (DM (Nat.ble (len*sz) 16777216)
    (XO env (parts.toList.map (·.2)) λvs=>DM (vs.all λv=>v.known&&Nat.beq v.cells.length sz) (Nx (vs.map λv=>v.cells.map V.JB) λes=>K (.slice sz es .full) env st))))
   |_=>False
 | .load t x=>match env.eval x with
   | .BO id off=>match assoc env.boxes id with
     |some cs=>Dm cs off (assoc T t) (λv=>K v env st)
     |none=>False
   | .ptr b off=>∃cs,st.box b=some cs/\Dm cs off (assoc T t) (λv=>K v env st)
   | .Gi e off=>Dm e off (assoc T t) (λv=>K v env st)
   |_=>False
 | .store t x y=>match env.eval x with
   | .BO id off=>match assoc env.boxes id,assoc T t with
     |some cs,some ty=>match env with
      |⟨ts,bs,n,sz,gl⟩=>(Env.Bu T ⟨ts,bs,n,sz,gl⟩ t y).force λv=>DM (v.known&&Nat.beq v.cells.length ty.zero.cells.length)
       (Bm cs off v.cells λcs'=>K .BE ⟨ts,(id,cs')::bs,n,sz,gl⟩ st)
     |_,_=>False
   | .ptr b off=>match assoc T t with
     |some ty=>∃cs,st.box b=some cs/\(env.Bu T t y).force λv=>DM (v.known&&Nat.beq v.cells.length ty.zero.cells.length)
       (Bm cs off v.cells λcs'=>K .BE env (st.Aa b cs'))
     |none=>False
   |_=>False
 | .nilCheck x=>match env.eval x with
   | .BO id off=>K (.BO id off) env st
   | .ptr b off=>K (.ptr b off) env st
   | .Gi e off=>K (.Gi e off) env st
   |_=>False
 | .fieldAddr t x f=>match assoc T t,env.eval x with
   |some (.struct U _),.BO id off=>match U[f]? with|some (o,s)=>DM (Nat.blt 0 s) (K (.BO id (off+o)) env st)|none=>False
   |some (.struct U _),.ptr b off=>match U[f]? with|some (o,s)=>DM (Nat.blt 0 s) (K (.ptr b (off+o)) env st)|none=>False
   |some (.struct U _),.Gi e off=>match U[f]? with|some (o,s)=>DM (Nat.blt 0 s) (K (.Gi e (off+o)) env st)|none=>False
   |_,_=>False
 | .binOp op t x y _=>match isNilIface y with
   |true=>MG op (assoc T t) (env.eval x) λv=>K v env st
   |false=>match Gs y with
    |true=>SQ op (assoc T t) (env.eval x) λv=>K v env st
    |false=>gb op (assoc T t) (env.eval x) (env.eval y) λv=>K v env st
 | .makeInterface t x=>match assoc T t with
   |some (.sc .Dt)=>False
   |some _=>(env.Bu T t x).force λv=>DM v.known (K (.iface t v) env st)
   |none=>False
 | .typeAssert x _ t ok=>match assoc T t with
   |some (.sc .Dt)=>False
   |some ty=>match env.eval x with
    | .iface t' v=>bif Nat.beq t' t then DM v.known (bif ok then K (.Bp [v,.bool true]) env st else v.force λv=>K v env st) else DM ok (K (.Bp [ty.zero,.bool false]) env st)
    | .Dt=>DM ok (K (.Bp [ty.zero,.bool false]) env st)
    |_=>False
   |none=>False
 | .panic x=>match env.eval x with
   | .iface t v=>Q (.B1 (.iface t v)) env st
   |_=>False
 | .slice t x lo (some hi) (some mx)=>match assoc T t,env.eval x with
   |some (.slice _ sz' _),.slice sz es _=>
    match (lo.map env.eval).getD (.int .i64 0),env.eval hi,env.eval mx with
    | .int _ l,.int _ h,.int _ m=>DM (Nat.beq sz' sz) ((0<=l/\l<=h/\h=m/\m<=es.length)/\∀es',es'=(es.take h.toNat).drop l.toNat->K (.slice sz es' .full) env st)
    |_,_,_=>False
   |_,_=>False
 | .unOp op _ x=>match op,env.eval x with
   | .not,.bool b=>lit b (K (.bool false) env st) (K (.bool true) env st)
   | .neg,.int k n=>∃r,r=k.wrap (0 - n)/\K (.int k r) env st
   |_,_=>False
 | .makeFunc (.func f) first cap=>XO env first.toList λa=>XO env cap.toList λc=>K (.func f a c) env st
 | .indexAddr t x i=>match assoc T t,env.eval x,env.eval i with
   |some (.slice _ sz' _),.slice sz es _,.int _ n=>DM (Nat.beq sz' sz) (0<=n/\∃e,es[n.toNat]? =some e/\K (.Gi e 0) env st)
   |some (.slice _ sz' _),.FP sz b m _,.int _ n=>DM (Nat.beq sz' sz) ((0<=n/\n<(m:Int))/\∀k,k=n.toNat*sz->K (.ptr b k) env st)
   |some (.arr U _),.BO id off,.int _ n=>(match n with
    | .ofNat m=>(match U[m]? with|some (o,_)=>K (.BO id (off+o)) env st|none=>False)
    | .negSucc _=>False)
   |_,_,_=>False
 | .index t x i=>match assoc T t,env.eval x,env.eval i with
   |some (.sc (.str _)),.str s,.int _ n=>0<=n/\∃e,s[n.toNat]? =some e/\K (.int .u8 e.toNat) env st
   |_,_,_=>False
 | .slice t x lo hi none=>match assoc T t,env.eval x with
   |some (.slice _ sz' _),.slice sz es _=>
    match (lo.map env.eval).getD (.int .i64 0),(hi.map env.eval).getD (.int .i64 es.length) with
    | .int _ l,.int _ h=>DM (Nat.beq sz' sz) ((0<=l/\l<=h/\h<=es.length)/\∀es',es'=(es.take h.toNat).drop l.toNat->K (.slice sz es' .any) env st)
    |_,_=>False
   |some (.sc (.str _)),.str s=>
    match (lo.map env.eval).getD (.int .i64 0),(hi.map env.eval).getD (.int .i64 s.length) with
    | .int _ l,.int _ h=>(0<=l/\l<=h/\h<=s.length)/\∀s',s'=(s.take h.toNat).drop l.toNat->K (.str s') env st
    |_,_=>False
   |some (.slice _ sz' _),.FP sz b n cap=>
    match (lo.map env.eval).getD (.int .i64 0),(hi.map env.eval).getD (.int .i64 n) with
    | .int _ l,.int _ h=>DM (Nat.beq sz' sz) ((l=0/\0<=h/\h<=n)/\∀k,k=h.toNat->K (.FP sz b k cap) env st)
    |_,_=>False
   |_,_=>False
 | .field t x f=>match assoc T t,env.eval x with
   |some (.struct U _),.agg cs=>match U[f]? with
    |some (o,1)=>match cs[o]? with|some v=>v.force λv=>K v env st|none=>False
    |_=>False
   |_,_=>False
 | .extract x i=>match env.eval x with
   | .Bp vs=>match vs[i]? with|some v=>v.force λv=>K v env st|none=>False
   |_=>False
 | .convert t u x=>match assoc T t,assoc T u,env.eval x with
   |some (.sc (.int _ _)),some (.sc (.int k' _)),.int _ n=>∃r,r=k'.wrap n/\K (.int k' r) env st
   |_,_,_=>False
 | .range t x=>match assoc T t,env.eval x with
   |some (.sc (.str _)),.str s=>DM (!env.Qk o.dst) (match env with
    |⟨ts,bs,n,sz,gl⟩=>K (.BO n 0) ⟨ts,(n,[.Ql s 0])::bs,n+1,sz,gl⟩ st)
   |_,_=>False
 | .next x true=>match env.eval x with
   | .BO id 0=>match assoc env.boxes id with
     |some [.Ql s pos]=>match env with
      |⟨ts,bs,n,sz,gl⟩=>Bn (decide (pos<s.length)) (∀c m,(c,m)=AU (s.drop pos)->K (.Bp [.bool true,.int .i64 pos,.int .i32 c]) ⟨ts,(id,[.Ql s (pos+m)])::bs,n,sz,gl⟩ st) (K (.Bp [.bool false]) ⟨ts,bs,n,sz,gl⟩ st)
     |_=>False
   |_=>False
 | .makeSlice t l c=>match assoc T t,env.eval l,env.eval c with
   |some (.slice el sz bytes),.int _ n,.int _ m=>(0<=n/\n<=m/\m*bytes<=140737488355328/\m<DG)/\
    ((n=0/\∀b,st.fresh b->K (.slice sz [] (.tok b)) env (st.BZ b 0))\/
     (n=m/\match assoc T el with|some ty=>∀b k,st.fresh b->k=n.toNat->K (.FP sz b k k) env (st.Aa b (List.replicate k ty.zero.cells).flatten)|none=>False))
   |_,_,_=>False
 | .call c=>match c.callee with
   | .builtin .len=>match c.args.toList.map env.eval,c.argTypes.toList.map (assoc T) with
     |[.slice _ es _],[some (.slice _ _ _)]=>∀m:Nat,m=es.length->m<DG->K (.int .i64 m) env st
     |[.str s],[some (.sc (.str _))]=>s.length<DG->K (.int .i64 s.length) env st
     |[.FP _ _ n _],[some (.slice _ _ _)]=>n<DG->K (.int .i64 n) env st
     |_,_=>False
   | .builtin .min=>match c.args.toList.map env.eval with
     |[.int k a,.int k' b]=>DM (decide (k=k')) (∃r,r=(if b<a then b else a)/\K (.int k r) env st)
     |_=>False
   | .builtin .max=>match c.args.toList.map env.eval with
     |[.int k a,.int k' b]=>DM (decide (k=k')) (∃r,r=(if a<b then b else a)/\K (.int k r) env st)
     |_=>False
   | .builtin .append=>match c.args.toList,c.argTypes.toList with
     |[x,y],[t,u]=>match assoc T t,assoc T u,env.Bu T t x,env.Bu T u y with
      |some (.slice _ sz bytes),some (.slice _ _ _),.slice sz' es own,.slice sz'' new _=>
       DM (Nat.beq t u&&(Nat.beq sz sz'&&Nat.beq sz sz'')) (Am sz bytes es own new st λv st'=>K v env st')
      |some (.slice _ sz bytes),some (.slice _ _ _),.FP sz' b n cap,.slice sz'' new _=>
       DM (Nat.beq t u&&(Nat.beq sz sz'&&Nat.beq sz sz'')) (Hy sz bytes b n cap new st λv st'=>K v env st')
      |_,_,_,_=>False
     |_,_=>False
   | .value f=>match env.eval f with
     | .func f a cap=>aW T env c.argTypes.toList c.args.toList λvs=>F3 (a++(vs++cap)) λvs=>C f vs st λr st'=>match r with
       | .ret v=>v.back λv=>K v env st'
       | .B1 v=>Q (.B1 v) env st'
     |_=>False
   |_=>False
 |_=>False
def Env.go (env:Env) (d:Option Nat) (v:V) (K:Env->Prop):Prop:=
 match env,d with
 |⟨ts,bs,n,sz,gl⟩,some t=>DM (Nat.blt t sz) (K ⟨(t,v)::ts,bs,n,sz,gl⟩)
 |e,none=>K e
def Bi (all:List Oper) (o:Oper) (env:Env) (yes no:Prop):Prop:=
 match o.guard with
 |none=>yes
 |some (j,want)=>
  match ((all[j]?).bind (·.dst)).map env.get with
  |some (.bool b)=>bif want then lit b yes no else lit b no yes
  |some (.Bp [])=>no
  |_=>False
def Ey (all:List Oper) (Q:AG->Env->St->Prop) (l:List Oper):Env->St->Prop:=
 List.rec (motive:=λ_=>Env->St->Prop) (λenv st=>Q .normal env st)
  (λo _ U env st=>Bi all o env (Gj T C o env st (λv env st=>env.go o.dst v λenv=>U env st) Q) (env.go o.dst (.Bp []) λenv=>U env st)) l
theorem SX (all:List Oper) (Q:AG->Env->St->Prop) (o:Oper) (r:List Oper) (env:Env) (st:St):Ey T C all Q (o::r) env st=
 Bi all o env (Gj T C o env st (λv env st=>env.go o.dst v λenv=>Ey T C all Q r env st) Q) (env.go o.dst (.Bp []) λenv=>Ey T C all Q r env st):=rfl
noncomputable def Env.only (env:Env) (bs:List (Nat×List V)) (Ch:List Nat):Env:={env with tmps:=Ch.map λt=>(t,env.get t),boxes:=bs}
def Oper.Ch (all:List Oper) (o:Oper):List Nat:=
 (o.op.operands.toList.filterMap λ| .tmp t=>some t|_=>none)++(match o.guard with|some (j,_)=>((all[j]?).bind (·.dst)).toList|none=>[])
def Br (all:List Oper) (o:Oper) (bs:List (Nat×List V)) (env:Env) (st:St) (v:V):Prop:=
 Gj T C o (env.only bs (Oper.Ch all o)) st (λU e s=>U=v/\e=env.only bs (Oper.Ch all o)/\s=st) (λ_ _ _=>False)
noncomputable def xJ (env:Env) (o:Oper):Option Nat:=match o.op with
 | .store _ x _=>match env.eval x with
   | .BO id _=>some id
   |_=>none
 |_=>none
noncomputable def GV (env:Env) (all:List Oper) (o:Oper):Bool:=
 match o.op with
 | .store _ (.tmp x) _=> !(all.any λp=>p.dst==some x)&&(match env.get x with| .BO _ _=>true|_=>false)
 | .store _ _ _=>false
 | .call ⟨.builtin .append,_,_⟩=>false
 | .range _ _| .next _ _| .makeSlice _ _ _=>false
 |_=>true
def HR (env:Env) (all:List Oper) (l:List Oper):(Nat->List (Option Nat)->Prop)->Prop:=
 List.rec (motive:=λ_=>(Nat->List (Option Nat)->Prop)->Prop) (λK=>K 0 [])
  (λo _ U K=>Bool.rec (motive:=λ_=>Prop) (K 0 []) (match xJ env o with
    |some id=>U λk L=>K (k+1) (some id::L)
    |none=>U λk L=>K (k+1) (none::L)) (GV env all o)) l
theorem TS (env:Env) (all:List Oper) (o:Oper) (r:List Oper) (K:Nat->List (Option Nat)->Prop):HR env all (o::r) K=Bool.rec (motive:=λ_=>Prop) (K 0 []) (match xJ env o with
 |some id=>HR env all r λk L=>K (k+1) (some id::L)
 |none=>HR env all r λk L=>K (k+1) (none::L)) (GV env all o):=rfl
def IK:List (Option Nat)->Bool
 |[]=>true
 |none::r=>IK r
 |some a::r=> !(r.contains (some a))&&IK r
noncomputable def Bl (L:List (Option Nat)) (bs:List (Nat×List V)):List (Nat×List V):=
 List.rec (motive:=λ_=>List (Nat×List V)) [] (λp _ U=>Bool.rec (motive:=λ_=>List (Nat×List V)) (p::U) U (L.contains (some p.1))) bs
def Env.up (env:Env) (K:Env->Prop):Prop:=match env with|⟨ts,bs,n,sz,gl⟩=>K ⟨ts,bs,n+1,sz,gl⟩
def Env.QP (env:Env) (cs:List V) (K:V->Env->Prop):Prop:=F3 cs λcs=>match env with|⟨ts,bs,n,sz,gl⟩=>K (.BO n 0) ⟨ts,(n,cs)::bs,n,sz,gl⟩
def QG (all:List Oper) (o:Oper) (b1 U:List (Nat×List V)) (env:Env) (st:St) (K:V->Env->Prop):Prop:=
 match o.op with
 | .alloc t=>match assoc T t with
   |some ty=>DM (!env.Qk o.dst) (env.QP ty.zero.cells K)
   |none=>False
 | .box t x=>DM (!env.Qk o.dst) ((env.Bu T t x).force λv=>DM v.known (env.QP v.cells K))
 | .store t x y=>match env.eval x with
   | .BO id off=>match assoc b1 id,assoc T t with
     |some cs,some ty=>match env with
      |⟨ts,bs,n,sz,gl⟩=>(Env.Bu T ⟨ts,bs,n,sz,gl⟩ t y).force λv=>DM (v.known&&Nat.beq v.cells.length ty.zero.cells.length)
       (Bm cs off v.cells λcs'=>K .BE ⟨ts,(id,cs')::bs,n,sz,gl⟩)
     |_,_=>False
   |_=>False
 |_=>∃v,Br T C all o U env st v/\v.part λv=>K v env
def IE (all:List Oper) (Q:AG->Env->St->Prop) (e0:Env) (b1 b0:List (Nat×List V)) (l:List Oper):Env->St->Prop:=
 List.rec (motive:=λ_=>Env->St->Prop) (λenv st=>Q .normal env st)
  (λo r U env st=>Bool.rec (motive:=λ_=>Prop) (Ey T C all Q (o::r) env st)
    (Bi all o env (QG T C all o b1 b0 env st λv env=>env.go o.dst v λenv=>env.up λenv=>U env st) (env.go o.dst (.Bp []) λenv=>env.up λenv=>U env st)) (GV e0 all o)) l
theorem YB (all:List Oper) (Q:AG->Env->St->Prop) (e0:Env) (b1 U:List (Nat×List V)) (o:Oper) (r:List Oper) (env:Env) (st:St):IE T C all Q e0 b1 U (o::r) env st=
 Bool.rec (motive:=λ_=>Prop) (Ey T C all Q (o::r) env st)
  (Bi all o env (QG T C all o b1 U env st λv env=>env.go o.dst v λenv=>env.up λenv=>IE T C all Q e0 b1 U r env st) (env.go o.dst (.Bp []) λenv=>env.up λenv=>IE T C all Q e0 b1 U r env st)) (GV e0 all o):=rfl
def BW (K:Env->St->Prop) (Q:AG->Env->St->Prop):AG->Env->St->Prop
 | .normal,e,s=>K e s
 |x,e,s=>Q x e s
def Mn (id:Nat) (Q:AG->Env->St->Prop):AG->Env->St->Prop
 | .exit U,a,w=>bif Nat.beq U id then Q .normal a w else Q (.exit U) a w
 |e,a,w=>Q e a w
noncomputable def V.OW (bs:List (Nat×List V)):V->Bool
 | .BO id _=>(assoc bs id).isSome
 |_=>true
def Env.le (env' env:Env):Prop:=
 env'.sz=env.sz/\(∀t v,assoc env'.tmps t=some v->v=.BE\/(assoc env.tmps t=some v/\v.OW env'.boxes=true))/\
 (∀id cs,assoc env'.boxes id=some cs->assoc env.boxes id=some cs)/\(∀id cs,assoc env'.boxes id=some cs->id<env'.Bs)
def bQ (env:Env) (bs:List (Nat×List V)):List (Nat×V)->Prop
 |[]=>True
 |(t,v)::r=>(match assoc env.tmps t with|some u=>u=v|none=>False)/\v.OW bs=true/\bQ env bs r
def V1 (env:Env):List (Nat×List V)->Prop
 |[]=>True
 |(t,v)::r=>(match assoc env.boxes t with|some u=>u=v|none=>False)/\V1 env r
def Env.E4 (env' env:Env):Prop:=env'.sz=env.sz/\bQ env env'.boxes env'.tmps/\V1 env env'.boxes/\(env'.boxes.all λp=>Nat.blt p.1 env'.Bs)=true
theorem Gn {α:Type}:∀{l:List (Nat×α)} {t:Nat} {v:α},assoc l t=some v->(t,v) ∈ l
 |(k,u)::r,t,v,h=>by
  rw [Bk] at h
  cases U:Nat.beq k t with
  |true=>
   simp_all
  |false=>rw [U] at h;exact List.mem_cons_of_mem _ (Gn h)
theorem SB {env:Env} {bs:List (Nat×List V)}:∀{l:List (Nat×V)},bQ env bs l->∀p ∈ l,assoc env.tmps p.1=some p.2/\p.2.OW bs=true
 |(t,v)::r,h,p,U=>by
  rcases List.mem_cons.1 U with rfl|U
  .refine ⟨?_,h.2.1⟩
   have h1:=h.1
   grind
  .exact SB h.2.2 p U
theorem PT {env:Env}:∀{l:List (Nat×List V)},V1 env l->∀p ∈ l,assoc env.boxes p.1=some p.2
 |(t,v)::r,h,p,U=>by
  rcases List.mem_cons.1 U with rfl|U
  .have h1:=h.1
   grind
  .exact PT h.2 p U
theorem Env.Ip {env' env:Env} (h:env'.E4 env):env'.le env:=by
 refine ⟨h.1,λt v U=>.inr (SB h.2.1 (t,v) (Gn U)),λid cs hb=>PT h.2.2.1 (id,cs) (Gn hb),λid cs hb=>?_⟩
 have:=List.all_eq_true.1 h.2.2.2 (id,cs) (Gn hb)
 simp_all
def BT:Op->Bool
 | .alloc _| .box _ _| .store _ _ _| .range _ _| .next _ _| .makeSlice _ _ _=>false
 |_=>true
def reaches (all:List Oper):Nat->Nat->Nat->Bool
 |0,_,_=>false
 |n+1,i,j=>match all[i]? with
  |some o=>(o.after.toList.any λe=>Region.binds .any e&&Nat.beq e.on j)||o.after.toList.any λe=>Region.binds .any e&&Nat.blt j e.on&&reaches all n e.on j
  |none=>false
def MH (all:List Oper) (i j:Nat) (o p:Oper):Bool:=
 match p.dst with
 |none=>true
 |some t=> !(o.dst==some t)&&(!((Oper.Ch all o).contains t)||(if Nat.blt j i then reaches all all.length i j else reaches all all.length j i))
def KC (k:Nat) (all:List Oper):Bool:=
 Nat.ble k all.length&&(List.range all.length).all λi=>match all[i]? with
  |none=>true
  |some o=>(o.after.toList.all λe=> !(Region.binds .any e)||Nat.blt e.on i)&&
   (bif Nat.blt i k then (List.range k).all λj=>Nat.beq i j||match all[j]? with|none=>true|some p=>MH all i j o p
     else (List.range i).all λj=>reaches all all.length i j)
def Kl:St:=⟨λ_=>none,λ_=>none⟩
def Fo:Op->Bool
 | .move _| .assign _| .pick _ _ _| .load _ _| .fieldAddr _ _ _| .nilCheck _| .binOp _ _ _ _ _| .unOp _ _ _| .build _ _| .buildSlice _ _ _| .extract _ _| .field _ _ _| .makeFunc _ _ _| .index _ _ _| .indexAddr _ _ _| .slice _ _ _ _ _| .makeInterface _ _| .convert _ _ _=>true
 | .call ⟨.builtin .len,_,_⟩| .call ⟨.builtin .min,_,_⟩| .call ⟨.builtin .max,_,_⟩=>true
 |_=>false
def Da:Op->Bool
 | .store _ _ _=>true
 |_=>false
noncomputable def Js (L:List Nat) (env:Env) (o:Oper):Bool:=match o.op with
 | .store _ x _=>match env.eval x with
   | .BO id _=>L.contains id
   |_=>true
 |_=>true
noncomputable def eC (all:List Oper) (l:List (Nat×Bool)):List Nat->Bool:=
 List.rec (motive:=λ_=>List Nat->Bool) (λ_=>true) (λp r U done=>(match all[p.1]? with
  |some o=>(o.after.toList.all λe=> !(Region.binds .any e)||done.contains e.on)&&(bif p.2 then Fo o.op else (BT o.op||Da o.op))
  |none=>false)&&(!(done.contains p.1)&&((p.2||r.all λx=>reaches all all.length x.1 p.1)&&U (p.1::done)))) l
noncomputable def Kk (sched:List (Nat×Bool)) (all:List Oper):Bool:=
 ((List.range all.length).all λi=>sched.any λp=>Nat.beq p.1 i)&&(eC all sched []&&(List.range all.length).all λi=>(List.range all.length).all λj=>Nat.beq i j||match all[i]?,all[j]? with
   |some o,some p=>MH all i j o p
   |_,_=>true)
def HI (S:List (Nat×Bool)) (all:List Oper) (i:Nat):Bool:=S.all λx=>x.2||reaches all all.length x.1 i
def GC (S:List (Nat×Bool)) (all:List Oper) (i:Nat):Bool:=S.all λx=>x.2||((match all[x.1]? with|some o=> !Da o.op|none=>false)||reaches all all.length x.1 i)
def F9 (all:List Oper) (S:List (Nat×Bool)) (L:List Nat) (b0:List (Nat×List V)) (Q:AG->Env->St->Prop) (l:List (Nat×Bool)):Env->St->Prop:=
 List.rec (motive:=λ_=>Env->St->Prop) (λenv st=>Q .normal env st) (λp _ U env st=>match all[p.1]? with
  |none=>False
  |some o=>match p.2 with
   |true=>Bi all o env (∃v,(Br T C all o b0 env Kl v\/(HI S all p.1=true/\Br T C all o env.boxes env st v)\/(GC S all p.1=true/\Br T C all o env.boxes env Kl v))/\v.part λv=>env.go o.dst v λenv=>U env st) (env.go o.dst (.Bp []) λenv=>U env st)
   |false=>Bi all o env (DM (Js L env o) (Gj T C o env st (λv env st=>env.go o.dst v λenv=>U env st) (λx _ s=>∀e',Q x e' s))) (env.go o.dst (.Bp []) λenv=>U env st)) l
theorem ME (all:List Oper) (S:List (Nat×Bool)) (L:List Nat) (U:List (Nat×List V)) (Q:AG->Env->St->Prop) (p:Nat×Bool) (r:List (Nat×Bool)) (env:Env) (st:St):F9 T C all S L U Q (p::r) env st=(match all[p.1]? with
 |none=>False
 |some o=>match p.2 with
  |true=>Bi all o env (∃v,(Br T C all o U env Kl v\/(HI S all p.1=true/\Br T C all o env.boxes env st v)\/(GC S all p.1=true/\Br T C all o env.boxes env Kl v))/\v.part λv=>env.go o.dst v λenv=>F9 T C all S L U Q r env st) (env.go o.dst (.Bp []) λenv=>F9 T C all S L U Q r env st)
  |false=>Bi all o env (DM (Js L env o) (Gj T C o env st (λv env st=>env.go o.dst v λenv=>F9 T C all S L U Q r env st) (λx _ s=>∀e',Q x e' s))) (env.go o.dst (.Bp []) λenv=>F9 T C all S L U Q r env st)):=rfl
def ei (J:Nat->Env->St->Prop) (Q:AG->Env->St->Prop):AG->Env->St->Prop
 | .goto l,e,s=>J l e s
 |x,e,s=>Q x e s
abbrev CW:Type:=(AG->Env->St->Prop)->Env->St->Prop
abbrev z8:Type:=CW×(Nat->Option CW)
def xH (U:Option CW) (wb:CW) (lb:Option CW):Option CW:=
 match U with
 |some f=>some λQ env st=>f (BW (wb Q) Q) env st
 |none=>lb
def QY (w:CW) (lw:Nat->Option CW) (Q:AG->Env->St->Prop) (env:Env) (st:St):Prop:=
 ∃(α:Type) (U:α->Nat) (E:α->Env) (S:α->St) (J:α->Prop) (μ:α->Nat),
  w (ei (λl env' st'=>∃y,U y=l/\J y/\(E y).E4 env'/\St.le (S y) st') Q) env st/\
  ∀x,J x->∃f,lw (U x)=some f/\f (ei (λl env' st'=>∃y,U y=l/\J y/\μ y<μ x/\(E y).E4 env'/\St.le (S y) st') Q) (E x) (S x)
noncomputable def MY (c:Code):z8:=
 Code.rec (motive:=λ_=>z8)
  ⟨λQ env st=>Q .normal env st,λ_=>none⟩
  (λ_ ops draw=>⟨λQ env st=>Bool.rec (motive:=λ_=>Prop) (Ey T C ops.toList Q ops.toList env st) ((HR env ops.toList ops.toList λk L=>(KC k ops.toList&&IK L)=true/\IE T C ops.toList Q env env.boxes (Bl L env.boxes) ops.toList env st)\/∃(sched:List (Nat×Bool)) (L:List Nat),Kk sched ops.toList=true/\F9 T C ops.toList sched L (Bl (L.map some) env.boxes) Q sched env st) draw,λ_=>none⟩)
  (λ_ _ iha U=>⟨λQ env st=>iha.1 (BW (U.1 Q) Q) env st,λl=>xH (iha.2 l) U.1 (U.2 l)⟩)
  (λc _ _ iha U=>⟨λQ env st=>match env.eval c with
    | .bool t=>lit t (iha.1 Q env st) (U.1 Q env st)
    |_=>False,λ_=>none⟩)
  (λid _ ih=>⟨λQ env st=>ih.1 (Mn id Q) env st,λ_=>none⟩)
  (λ_ ih=>⟨λQ env st=>∃(α:Type) (E:α->Env) (S:α->St) (J:α->Prop) (μ:α->Nat) (x0:α),J x0/\(E x0).E4 env/\St.le (S x0) st/\
    ∀x,J x->ih.1 (BW (λenv' st'=>∃y,J y/\μ y<μ x/\(E y).E4 env'/\St.le (S y) st') Q) (E x) (S x),λ_=>none⟩)
  (λ_ _ _ _ _ _=>⟨λ_ _ _=>False,λ_=>none⟩)
  (λid=>⟨λQ env st=>Q (.exit id) env st,λ_=>none⟩)
  (λ_ ih=>⟨λQ env st=>QY ih.1 ih.2 Q env st,λ_=>none⟩)
  (λl'=>⟨λQ env st=>Q .normal env st,λl=>bif Nat.beq l' l then some λQ env st=>Q .normal env st else none⟩)
  (λl=>⟨λQ env st=>Q (.goto l) env st,λ_=>none⟩)
  ⟨λQ env st=>Q .ret env st,λ_=>none⟩
  (λ_=>⟨λ_ _ _=>False,λ_=>none⟩) c
noncomputable def Qw (c:Code) (Q:AG->Env->St->Prop) (env:Env) (st:St):Prop:=(MY T C c).1 Q env st
def WX (env:Env) (st:St) (x:ResultVar) (K:V->Prop):Prop:=
 match x with
 | .tmp t=>(env.get t).force λv=>DM v.plain (K v)
 | .cell x t=>match env.get x with
   | .BO id off=>match assoc env.boxes id with
     |some cs=>Dm cs off (assoc T t) λv=>K v
     |none=>False
   | .ptr b off=>∃cs,st.box b=some cs/\Dm cs off (assoc T t) λv=>K v
   |_=>False
def Fh (env:Env) (st:St) (l:List ResultVar):(List V->Prop)->Prop:=
 List.rec (motive:=λ_=>(List V->Prop)->Prop) (λK=>K []) (λx _ U K=>WX T env st x λv=>U λvs=>K (v::vs)) l
theorem TP (env:Env) (st:St) (x:ResultVar) (r:List ResultVar) (K:List V->Prop):Fh T env st (x::r) K=WX T env st x λv=>Fh T env st r λvs=>K (v::vs):=rfl
def fh (fn:Func) (R:Au->St->Prop):AG->Env->St->Prop
 | .normal,env,st| .ret,env,st=>Fh T env st fn.results.toList λvs=>
   match vs with
   |[v]=>R (.ret v) st
   |vs=>R (.ret (.Bp vs)) st
 | .B1 v,_,st=>R (.B1 v) st
 |_,_,_=>False
noncomputable def IP (i:Nat) (l:List V):List (Nat×V):=
 List.rec (motive:=λ_=>Nat->List (Nat×V)) (λ_=>[]) (λv _ U i=>(i,v)::U (i+1)) l i
theorem aD (i:Nat) (v:V) (r:List V):IP i (v::r)=(i,v)::IP (i+1) r:=rfl
def Vh (fn:Func) (gl:List Nat) (args:List V) (st:St) (R:Au->St->Prop):Prop:=
 match fn.body with
 |some c=>DM (Nat.ble args.length fn.ntmps) (Qw T C c (fh T fn R) {tmps:=IP 0 args,boxes:=[],Bs:=0,sz:=fn.ntmps,gl} st)
 |none=>False
def Au.wk:Au->Au
 | .ret v=>.ret v.wk
 | .B1 v=>.B1 v.wk
end
structure gV (c:Nat->Nat->Option Value) (s:Nat->Option Nat):Prop where
 first:∀i,i<256->c 1 i=some (.int .u8 (Lib.firstT i))
 accept:∀i,i<16->c 2 (2*i)=some (.int .u8 (Lib.accLo i))/\c 2 (2*i+1)=some (.int .u8 (Lib.accHi i))
 maxLen:∃m,c 3 0=some (.int .i64 m)
 space:∀i,i<256->c 4 i=some (.int .u8 (Lib.asciiSpaceTab.getD i 0))
 pJ:s 4=some 256
 handle:c 0 0=some (.iface 191 (.agg #[.pointer (some ⟨7,86,none⟩)]))
theorem VN {c U:Nat->Nat->Option Value} {s s':Nat->Option Nat} (h:∀b o v,c b o=some v->U b o=some v) (k:∀b n,s b=some n->s' b=some n) (g:gV c s):gV U s':=
 ⟨λi hi=>h _ _ _ (g.first i hi),λi hi=>⟨h _ _ _ (g.accept i hi).1,h _ _ _ (g.accept i hi).2⟩,g.maxLen.imp λ_ e=>h _ _ _ e,λi hi=>h _ _ _ (g.space i hi),k _ _ g.pJ,h _ _ _ g.handle⟩
structure Mem where
 cell:Nat->Nat->Option Value
 shape:Nat->Option Nat
def Mem.le (I J:Mem):Prop:=(∀b o v,I.cell b o=some v->J.cell b o=some v)/\∀b n,I.shape b=some n->J.shape b=some n
theorem Mem.le_refl (I:Mem):I.le I:=⟨λ_ _ _ h=>h,λ_ _ h=>h⟩
theorem Mem.le_trans {I J K:Mem} (h:I.le J) (k:J.le K):I.le K:=⟨λb o v x=>k.1 _ _ _ (h.1 _ _ _ x),λb n x=>k.2 _ _ (h.2 _ _ x)⟩
def XQ (I:Mem) (sz len cap:Nat) (a:Option Addr):AE->Prop
 | .any=>True
 | .full=>cap=len
 | .tok b=>a=some ⟨b,0,none⟩/\I.shape b=some (cap*sz)
mutual
def AM (I:Mem):V->Value->Prop
 | .BE,_=>True
 | .bool b,c=>c=.bool b
 | .int k n,c=>c=.int k n
 | .str s,c=>c=.string ⟨s.toArray⟩/\s.length<DG
 | .agg cs,c=>∃vs:List Value,c=.agg vs.toArray/\Ao I cs vs
 | .Bp cs,c=>∃vs:List Value,c=.tuple vs.toArray/\Ao I cs vs
 | .slice sz es own,c=>∃a cap,c=.slice a es.length cap/\es.length<=cap/\es.length<DG/\0<sz/\XQ I sz es.length cap a own/\
    (match a with|none=>cap=0|some U=>(cap=0\/U.spot=none)/\Cq I sz U.block U.off es)
 | .ptr b off,c=>c=.pointer (some ⟨b,off,none⟩)
 | .BO _ _,_=>False
 | .Gi e off,c=>∃b o,c=.pointer (some ⟨b,o+off,none⟩)/\CV I b o e
 | .Es,c=>c=.pointer none
 | .func f a cap,c=>∃az cs:List Value,c=.func (.func f) az.toArray cs.toArray/\Ao I a az/\Ao I cap cs
 | .At,c=>c=.nilFunc
 | .iface t v,c=>∃c',c=.iface t c'/\AM I v c'
 | .Dt,c=>c=.nilIface
 | .Ql _ _,_=>False
 | .FP sz b n cap,c=>c=.slice (some ⟨b,0,none⟩) n cap/\n<=cap/\n<DG/\0<sz
 | .kn l,c=>c=.func (.yield l) #[] #[]
def Ao (I:Mem):List V->List Value->Prop
 |[],vs=>vs=[]
 |v::r,vs=>∃c s,vs=c::s/\AM I v c/\Ao I r s
def CV (I:Mem) (b o:Nat):List V->Prop
 |[]=>True
 |v::r=>(∃c,I.cell b o=some c/\AM I v c)/\CV I b (o+1) r
def Cq (I:Mem) (sz b o:Nat):List (List V)->Prop
 |[]=>True
 |e::r=>(e.length=sz/\CV I b o e)/\Cq I sz b (o+sz) r
end
theorem XQ.mono {I J:Mem} (h:I.le J) {sz len cap:Nat} {a:Option Addr} {own:AE} (k:XQ I sz len cap a own):XQ J sz len cap a own:=by
 cases own with
 |any=>trivial
 |full=>exact k
 |tok b=>exact ⟨k.1,h.2 _ _ k.2⟩
mutual
theorem AM.mono {I J:Mem} (h:I.le J):∀(v:V) (c:Value),AM I v c->AM J v c
 | .BE,_,_=>by simp only [AM]
 | .bool b,c,k=>by simpa only [AM] using k
 | .int _ n,c,k=>by simpa only [AM] using k
 | .str s,c,k=>by simpa only [AM] using k
 | .agg cs,c,k=>by
   simp only [AM] at k |-
   obtain ⟨vs,e,k⟩:=k
   exact ⟨vs,e,Ao.mono h cs vs k⟩
 | .Bp cs,c,k=>by
   simp only [AM] at k |-
   obtain ⟨vs,e,k⟩:=k
   exact ⟨vs,e,Ao.mono h cs vs k⟩
 | .slice sz es own,c,k=>by
   simp only [AM] at k |-
   obtain ⟨a,cap,e,h1,h2,h3,h4,U⟩:=k
   refine ⟨a,cap,e,h1,h2,h3,h4.mono h,?_⟩
   cases a with
   |none=>exact U
   |some ad=>exact ⟨U.1,Cq.mono h sz ad.block es ad.off U.2⟩
 | .ptr _ _,c,k=>by simpa only [AM] using k
 | .BO _ _,c,k=>by simp only [AM] at k
 | .Gi e off,c,k=>by
   simp only [AM] at k |-
   obtain ⟨b,o,e1,k⟩:=k
   exact ⟨b,o,e1,CV.mono h b e o k⟩
 | .Es,c,k=>by simpa only [AM] using k
 | .func f a cap,c,k=>by
   simp only [AM] at k |-
   obtain ⟨az,cs,e,k1,k2⟩:=k
   exact ⟨az,cs,e,Ao.mono h a az k1,Ao.mono h cap cs k2⟩
 | .At,c,k=>by simpa only [AM] using k
 | .iface t v,c,k=>by
   simp only [AM] at k |-
   obtain ⟨c',e,k⟩:=k
   exact ⟨c',e,AM.mono h v c' k⟩
 | .Dt,c,k=>by simpa only [AM] using k
 | .Ql _ _,c,k=>by simp only [AM] at k
 | .FP _ _ _ _,c,k=>by simpa only [AM] using k
 | .kn _,c,k=>by simpa only [AM] using k
theorem Ao.mono {I J:Mem} (h:I.le J):∀(l:List V) (vs:List Value),Ao I l vs->Ao J l vs
 |[],vs,k=>by simpa only [Ao] using k
 |v::r,vs,k=>by
  simp only [Ao] at k |-
  obtain ⟨c,s,e,k1,U⟩:=k
  exact ⟨c,s,e,AM.mono h v c k1,Ao.mono h r s U⟩
theorem CV.mono {I J:Mem} (h:I.le J) (b:Nat):∀(l:List V) (o:Nat),CV I b o l->CV J b o l
 |[],o,k=>by simp only [CV]
 |v::r,o,k=>by
  simp only [CV] at k |-
  obtain ⟨⟨c,k1,U⟩,k3⟩:=k
  exact ⟨⟨c,h.1 _ _ _ k1,AM.mono h v c U⟩,CV.mono h b r (o+1) k3⟩
theorem Cq.mono {I J:Mem} (h:I.le J) (sz b:Nat):∀(l:List (List V)) (o:Nat),Cq I sz b o l->Cq J sz b o l
 |[],o,k=>by simp only [Cq]
 |v::r,o,k=>by
  simp only [Cq] at k |-
  exact ⟨⟨k.1.1,CV.mono h b v o k.1.2⟩,Cq.mono h sz b r (o+sz) k.2⟩
end
theorem AM.JB {I:Mem}:∀{v:V} {c:Value},AM I v c->AM I v.JB c
 | .slice sz es own,c,k=>by
   simp only [V.JB,AM] at k |-
   obtain ⟨a,cap,e,U,h2,h3,h4,h5⟩:=k
   exact ⟨a,cap,e,U,h2,h3,trivial,h5⟩
 | .BE,_,k| .bool _,_,k| .int _ _,_,k| .str _,_,k| .agg _,_,k| .Bp _,_,k| .ptr _ _,_,k| .BO _ _,_,k| .Gi _ _,_,k| .Es,_,k
 | .func _ _ _,_,k| .At,_,k| .iface _ _,_,k| .Dt,_,k| .Ql _ _,_,k| .FP _ _ _ _,_,k| .kn _,_,k=>k
theorem Ao.map {I:Mem} {f:V->V} (U:∀v c,AM I v c->AM I (f v) c):∀{l:List V} {vs:List Value},Ao I l vs->Ao I (l.map f) vs
 |[],vs,k=>by simp_all
 |v::r,vs,k=>by
  simp only [Ao,List.map_cons] at k |-
  obtain ⟨c,s,e,k1,k2⟩:=k
  exact ⟨c,s,e,U v c k1,Ao.map U k2⟩
theorem CV.map {I:Mem} {f:V->V} (U:∀v c,AM I v c->AM I (f v) c) (b:Nat):∀{l:List V} {o:Nat},CV I b o l->CV I b o (l.map f)
 |[],o,k=>by simp_all
 |v::r,o,k=>by
  simp only [CV,List.map_cons] at k |-
  obtain ⟨⟨c,k1,k2⟩,k3⟩:=k
  exact ⟨⟨c,k1,U v c k2⟩,CV.map U b k3⟩
theorem AM.yc {I:Mem} {v:V} {c:Value} (k:AM I v c):AM I v.yc c:=by
 cases v with
 |agg cs=>
  simp only [V.yc,AM] at k |-
  obtain ⟨vs,e,k⟩:=k
  exact ⟨vs,e,Ao.map (λ_ _=>AM.JB) k⟩
 |slice sz es own=>exact AM.JB k
 |_=>exact k
theorem AM.wk {I:Mem} {v:V} {c:Value} (k:AM I v c):AM I v.wk c:=by
 cases v with
 |agg cs=>exact AM.yc k
 |Bp cs=>
  simp only [V.wk,AM] at k |-
  obtain ⟨vs,e,k⟩:=k
  exact ⟨vs,e,Ao.map (λ_ _=>AM.yc) k⟩
 |slice sz es own=>exact AM.JB k
 |_=>exact k
theorem Ao.length {I:Mem}:∀{l:List V} {vs:List Value},Ao I l vs->l.length=vs.length
 |[],vs,k=>by simp only [Ao] at k;simp_all
 |v::r,vs,k=>by
  simp only [Ao] at k
  obtain ⟨c,s,e,k1,U⟩:=k
  subst e
  simp [Ao.length U]
theorem Ao.get {I:Mem}:∀{l:List V} {vs:List Value} {i:Nat} {v:V},Ao I l vs->l[i]? =some v->∃c,vs[i]? =some c/\AM I v c
 |[],vs,i,v,k,h=>by simp at h
 |u::r,vs,i,v,k,h=>by
  simp only [Ao] at k
  obtain ⟨c,s,e,k1,U⟩:=k
  subst e
  cases i with
  |zero=>simp_all
  |succ i=>simp at h;obtain ⟨c',h1,h2⟩:=Ao.get U h;simp_all
theorem Ao.append {I:Mem}:∀{l r:List V} {vs us:List Value},Ao I l vs->Ao I r us->Ao I (l++r) (vs++us)
 |[],r,vs,us,k,h=>by simp only [Ao] at k;simp_all
 |v::l,r,vs,us,k,h=>by
  simp only [Ao] at k
  obtain ⟨c,s,e,k1,U⟩:=k
  subst e
  simp only [List.cons_append,Ao]
  exact ⟨c,s++us,rfl,k1,Ao.append U h⟩
theorem Ao.take {I:Mem}:∀{l:List V} {vs:List Value} (n:Nat),Ao I l vs->Ao I (l.take n) (vs.take n)
 |[],vs,n,k=>by simp only [Ao] at k;subst k;simp [Ao]
 |v::l,vs,0,k=>by rfl
 |v::l,vs,n+1,k=>by
  simp only [Ao] at k
  obtain ⟨c,s,e,k1,U⟩:=k
  subst e
  simp only [List.take_succ_cons,Ao]
  exact ⟨c,_,rfl,k1,Ao.take n U⟩
theorem Ao.drop {I:Mem}:∀{l:List V} {vs:List Value} (n:Nat),Ao I l vs->Ao I (l.drop n) (vs.drop n)
 |[],vs,n,k=>by simp only [Ao] at k;subst k;simp [Ao]
 |v::l,vs,0,k=>by simp_all
 |v::l,vs,n+1,k=>by
  simp only [Ao] at k
  obtain ⟨c,s,e,k1,U⟩:=k
  subst e
  simpa using Ao.drop n U
theorem CV.get {I:Mem} {b:Nat}:∀{l:List V} {o i:Nat} {v:V},CV I b o l->l[i]? =some v->∃c,I.cell b (o+i)=some c/\AM I v c
 |[],o,i,v,k,h=>by simp at h
 |u::r,o,i,v,k,h=>by
  simp only [CV] at k
  cases i with
  |zero=>simp_all
  |succ i=>
   simp at h
   obtain ⟨c,U,h2⟩:=CV.get k.2 h
   grind
theorem CV.drop {I:Mem} {b:Nat}:∀{l:List V} {o:Nat} (n:Nat),CV I b o l->CV I b (o+n) (l.drop n)
 |[],o,n,k=>by simp [CV]
 |v::l,o,0,k=>by simp_all
 |v::l,o,n+1,k=>by
  simp only [CV] at k
  rw [show o+(n+1)=o+1+n by omega]
  simpa using CV.drop n k.2
theorem CV.take {I:Mem} {b:Nat}:∀{l:List V} {o:Nat} (n:Nat),CV I b o l->CV I b o (l.take n)
 |[],o,n,k=>by grind
 |v::l,o,0,k=>by simp [CV]
 |v::l,o,n+1,k=>by
  simp only [CV,List.take_succ_cons] at k |-
  exact ⟨k.1,CV.take n k.2⟩
theorem Cq.get {I:Mem} {sz b:Nat}:∀{l:List (List V)} {o i:Nat} {e:List V},Cq I sz b o l->l[i]? =some e->e.length=sz/\CV I b (o+i*sz) e
 |[],o,i,v,k,h=>by simp at h
 |u::r,o,i,v,k,h=>by
  simp only [Cq] at k
  cases i with
  |zero=>simp_all
  |succ i=>
   simp at h
   have:=Cq.get k.2 h
   grind
theorem Cq.drop {I:Mem} {sz b:Nat}:∀{l:List (List V)} {o:Nat} (n:Nat),Cq I sz b o l->Cq I sz b (o+n*sz) (l.drop n)
 |[],o,n,k=>by simp [Cq]
 |v::l,o,0,k=>by simp_all
 |v::l,o,n+1,k=>by
  simp only [Cq] at k
  rw [show o+(n+1)*sz=o+sz+n*sz by grind]
  simpa using Cq.drop n k.2
theorem Cq.take {I:Mem} {sz b:Nat}:∀{l:List (List V)} {o:Nat} (n:Nat),Cq I sz b o l->Cq I sz b o (l.take n)
 |[],o,n,k=>by grind
 |v::l,o,0,k=>by simp [Cq]
 |v::l,o,n+1,k=>by
  simp only [Cq,List.take_succ_cons] at k |-
  exact ⟨k.1,Cq.take n k.2⟩
theorem Cq.append {I:Mem} {sz b:Nat}:∀{l r:List (List V)} {o:Nat},Cq I sz b o l->Cq I sz b (o+l.length*sz) r->Cq I sz b o (l++r)
 |[],r,o,k,h=>by simp_all
 |v::l,r,o,k,h=>by
  simp only [Cq,List.cons_append] at k |-
  refine ⟨k.1,Cq.append k.2 ?_⟩
  grind
def A2 (I:Mem) (β:Nat->Option Nat):V->Value->Prop
 | .BO id off,c=>∃b,β id=some b/\c=.pointer (some ⟨b,off,none⟩)
 |v,c=>AM I v c
theorem A2.of {I:Mem} {β:Nat->Option Nat} {v:V} {c:Value} (h:AM I v c):A2 I β v c:=by
 cases v<;>first|exact h|exact (by simp only [AM] at h)
theorem A2.mono {I J:Mem} (h:I.le J) {β:Nat->Option Nat} {v:V} {c:Value} (k:A2 I β v c):A2 J β v c:=by
 cases v<;>first|exact k|exact AM.mono h _ _ k
structure Cv (I:Mem) (st:St) (w:World):Prop where
 cell:∀b o v,I.cell b o=some v->w.cell? ⟨b,o,none⟩=some v
 shape:∀b n,I.shape b=some n->∃c ty,w.heap[b]? =some (.cells c ty (0,0))/\c.size=n
 box:∀b cs,st.box b=some cs->∃(vs:List Value) (ty:TypeId),w.heap[b]? =some (.cells vs.toArray ty (0,0))/\Ao I cs vs
 Iz:∀b,st.box b≠none->(∀o,I.cell b o=none)/\st.hw b=none/\I.shape b=none
 hw:∀b h,st.hw b=some h->b<w.heap.size/\∀o,h<=o->I.cell b o=none
 T0:gV I.cell I.shape
structure Fr (I0:Mem) (st0:St) (w0:World) (I:Mem) (st:St) (w:World):Prop where
 os:w.os=w0.os
 tape:w.tape=w0.tape
 output:w.output=w0.output
 size:w0.heap.size<=w.heap.size
 IL:∀b,b<w0.heap.size->st0.box b=none->st0.hw b=none->w.heap[b]? =w0.heap[b]?
 le:I0.le I
 new:∀b o,I0.cell b o=none->I.cell b o≠none->w0.heap.size<=b\/st0.box b≠none\/st0.hw b≠none
 LU:∀b,I0.shape b=none->I.shape b≠none->w0.heap.size<=b\/st0.box b≠none\/st0.hw b≠none
 LQ:∀b,(st.box b≠none\/st.hw b≠none)->w0.heap.size<=b\/st0.box b≠none\/st0.hw b≠none
theorem Fr.refl {I:Mem} {st:St} {w:World}:Fr I st w I st w:=
 ⟨rfl,rfl,rfl,Nat.le_refl _,λ_ _ _ _=>rfl,Mem.le_refl _,λ_ _ h k=>absurd h k,λ_ h k=>absurd h k,λ_ h=>.inr h⟩
theorem Fr.trans {I0 I1 I2:Mem} {s0 s1 s2:St} {w0 w1 w2:World} (h:Fr I0 s0 w0 I1 s1 w1) (k:Fr I1 s1 w1 I2 s2 w2):Fr I0 s0 w0 I2 s2 w2:=by
 refine ⟨k.os.trans h.os,k.tape.trans h.tape,k.output.trans h.output,Nat.le_trans h.size k.size,?_,Mem.le_trans h.le k.le,?_,?_,?_⟩
 .intro b hb h1 h2
  have e1:s1.box b=none:=by
   cases hh:s1.box b with
   |none=>rfl
   |some c=>rcases h.LQ b (.inl (by rw [hh];simp)) with h|h|h<;>first|omega|contradiction
  have e2:s1.hw b=none:=by
   cases hh:s1.hw b with
   |none=>rfl
   |some c=>rcases h.LQ b (.inr (by rw [hh];simp)) with h|h|h<;>first|omega|contradiction
  rw [k.IL b (Nat.lt_of_lt_of_le hb h.size) e1 e2,h.IL b hb h1 h2]
 .intro b o h1 h2
  cases hh:I1.cell b o with
  |some v=>exact h.new b o h1 i7
  |none=>
   rcases k.new b o hh h2 with U|U|U
   .exact .inl (Nat.le_trans h.size U)
   .exact h.LQ b (.inl U)
   .exact h.LQ b (.inr U)
 .intro b h1 h2
  cases hh:I1.shape b with
  |some v=>exact h.LU b h1 i7
  |none=>
   rcases k.LU b hh h2 with U|U|U
   .exact .inl (Nat.le_trans h.size U)
   .exact h.LQ b (.inl U)
   .exact h.LQ b (.inr U)
 .intro b hb
  rcases k.LQ b hb with U|U|U
  .exact .inl (Nat.le_trans h.size U)
  .exact h.LQ b (.inl U)
  .exact h.LQ b (.inr U)
theorem L7 {cs:List V} {off:Nat} {ty:Option Ty} {K:V->Prop} (h:Dm cs off ty K):NV cs=true:=(As.1 h).1
theorem Xw {cs new:List V} {off:Nat} {K:List V->Prop} (h:Bm cs off new K):NV cs=true:=(As.1 h).1
def Laid (I:Mem) (o:Option Obj) (cs:List V):Prop:=
 (∃(vs:List Value) (ty:TypeId),o=some (.cells vs.toArray ty (0,0))/\Ao I cs vs)\/∃(s:List UInt8) (pos:Nat),cs=[.Ql s pos]/\s.length<DG/\o=some (.stringIter ⟨s.toArray⟩ pos)
theorem Laid.mono {I J:Mem} {o:Option Obj} {cs:List V} (h:Laid I o cs) (hl:I.le J):Laid J o cs:=by
 rcases h with ⟨vs,ty,U,h2⟩|h
 .exact .inl ⟨vs,ty,U,Ao.mono hl _ _ h2⟩
 .exact .inr h
theorem Laid.cells {I:Mem} {o:Option Obj} {cs:List V} (h:Laid I o cs) (hn:NV cs=true):∃(vs:List Value) (ty:TypeId),o=some (.cells vs.toArray ty (0,0))/\Ao I cs vs:=by
 rcases h with h|⟨s,pos,rfl,_⟩
 .exact h
 .cases hn
structure Iw (D:List Deferred) (B:Nat) (I:Mem) (β:Nat->Option Nat) (env:Env) (st:St) (a:Act) (w:World):Prop where
 size:a.tmps.size=env.sz
 tmps:∀t v,assoc env.tmps t=some v->A2 I β v (a.tmps.getD t undef)
 box:∀id cs,assoc env.boxes id=some cs->∃b:Nat,β id=some b/\Laid I w.heap[b]? cs
 Bs:∀id b,β id=some b->id<env.Bs
 inj:∀i j b,β i=some b->β j=some b->i=j
 sep:∀id b,β id=some b->B<=b/\b<w.heap.size/\(∀o,I.cell b o=none)/\I.shape b=none/\st.box b=none/\st.hw b=none
 defers:a.defers=D
structure Rel (D:List Deferred) (I0:Mem) (st0:St) (w0:World) (I:Mem) (β:Nat->Option Nat) (env:Env) (st:St) (a:Act) (w:World):Prop where
 fr:Fr I0 st0 w0 I st w
 s:Cv I st w
 f:Iw D w0.heap.size I β env st a w
section
variable {D:List Deferred} {I0 I:Mem} {st0 st:St} {w0 w w':World} {β:Nat->Option Nat} {env:Env} {a:Act}
structure Et (w w':World):Prop where
 os:w'.os=w.os
 tape:w'.tape=w.tape
 output:w'.output=w.output
 size:w.heap.size<=w'.heap.size
 IL:∀b,b<w.heap.size->w'.heap[b]? =w.heap[b]?
theorem Et.refl (w:World):Et w w:=⟨rfl,rfl,rfl,Nat.le_refl _,λ_ _=>rfl⟩
theorem Et.drew (w:World):Et w w.drew:=⟨rfl,rfl,rfl,Nat.le_refl _,λ_ _=>rfl⟩
theorem Et.alloc (w:World) (o:Obj):Et w (w.alloc o):=
 ⟨rfl,rfl,rfl,GT,λb hb=>by simp only [World.alloc,Array.getElem?_push];grind⟩
theorem Et.trans {x y z:World} (h:Et x y) (k:Et y z):Et x z:=
 ⟨k.os.trans h.os,k.tape.trans h.tape,k.output.trans h.output,Nat.le_trans h.size k.size,λb hb=>(k.IL b (Nat.lt_of_lt_of_le hb h.size)).trans (h.IL b hb)⟩
theorem Gt {w:World} {b:Nat} {o:Obj} (h:w.heap[b]? =some o):b<w.heap.size:=by grind
theorem MD {w:World} {b o:Nat} {v:Value} (h:w.cell? ⟨b,o,none⟩=some v):b<w.heap.size:=World.block_lt_of_cell? _ _ h
theorem Hi {w w':World} {b o:Nat} (h:w'.heap[b]? =w.heap[b]?):w'.cell? ⟨b,o,none⟩=w.cell? ⟨b,o,none⟩:=by
 simp only [World.cell?,h]
theorem Cv.HO (h:Cv I st w) (g:Et w w'):Cv I st w' where
 cell b o v k:=by have:=h.cell b o v k;rw [Hi (g.IL b (MD this))];omega
 shape b n k:=by obtain ⟨c,ty,U,h2⟩:=h.shape b n k;exact ⟨c,ty,by rw [g.IL b (Gt U)];exact U,h2⟩
 box b cs k:=by obtain ⟨vs,ty,U,h2⟩:=h.box b cs k;exact ⟨vs,ty,by rw [g.IL b (Gt U)];exact U,h2⟩
 Iz:=h.Iz
 hw b n k:=⟨Nat.lt_of_lt_of_le (h.hw b n k).1 g.size,(h.hw b n k).2⟩
 T0:=h.T0
theorem Fr.HO (h:Fr I0 st0 w0 I st w) (g:Et w w'):Fr I0 st0 w0 I st w' where
 os:=g.os.trans h.os
 tape:=g.tape.trans h.tape
 output:=g.output.trans h.output
 size:=Nat.le_trans h.size g.size
 IL b hb U h2:=(g.IL b (Nat.lt_of_lt_of_le hb h.size)).trans (h.IL b hb U h2)
 le:=h.le
 new:=h.new
 LU:=h.LU
 LQ:=h.LQ
theorem Iw.HO {B:Nat} (h:Iw D B I β env st a w) (g:Et w w'):Iw D B I β env st a w' where
 size:=h.size
 tmps:=h.tmps
 box id cs k:=by obtain ⟨b,U,h1⟩:=h.box id cs k;exact ⟨b,U,by rw [g.IL b (h.sep id b U).2.1];exact h1⟩
 Bs:=h.Bs
 inj:=h.inj
 sep id b k:=⟨(h.sep id b k).1,Nat.lt_of_lt_of_le (h.sep id b k).2.1 g.size,(h.sep id b k).2.2⟩
 defers:=h.defers
theorem Rel.HO (h:Rel D I0 st0 w0 I β env st a w) (g:Et w w'):Rel D I0 st0 w0 I β env st a w':=⟨h.fr.HO g,h.s.HO g,h.f.HO g⟩
theorem heap_alloc_new (w:World) (o:Obj):(w.alloc o).heap[w.heap.size]? =some o:=by
 simp only [World.alloc,Array.getElem?_push,if_true]
theorem vD (h:Cv I st w) {b:Nat} (k:st.box b≠none\/st.hw b≠none):b<w.heap.size:=by
 rcases k with k|k
 .cases hb:st.box b with
  |none=>simp_all
  |some cs=>obtain ⟨vs,ty,U,_⟩:=h.box b cs hb;grind
 .cases hb:st.hw b with
  |none=>simp_all
  |some n=>exact (h.hw b n hb).1
theorem DF (h:Cv I st w):st.fresh w.heap.size:=by
 constructor
 .cases hb:st.box w.heap.size with
  |none=>rfl
  |some cs=>exact absurd (vD h (.inl i7)) (Nat.lt_irrefl _)
 .cases hb:st.hw w.heap.size with
  |none=>rfl
  |some cs=>exact absurd (vD h (.inr i7)) (Nat.lt_irrefl _)
theorem Kz (h:Cv I st w) (o:Nat):I.cell w.heap.size o=none:=by
 cases hb:I.cell w.heap.size o with
 |none=>rfl
 |some v=>exact absurd (MD (h.cell _ _ _ hb)) (Nat.lt_irrefl _)
theorem LH (h:Cv I st w):I.shape w.heap.size=none:=by
 cases hb:I.shape w.heap.size with
 |none=>rfl
 |some v=>obtain ⟨c,ty,U,_⟩:=h.shape _ _ hb;simp_all
theorem Rel.YT (h:Rel D I0 st0 w0 I β env st a w) {cs:List V} {ob:Obj} (k:Laid I (some ob) cs) {x n:Nat} (hx:β x=none) (hn:x<n) (hle:env.Bs<=n):
 Rel D I0 st0 w0 I (λi=>if i=x then some w.heap.size else β i) {env with boxes:=(x,cs)::env.boxes,Bs:=n} st a (w.alloc ob):=by
 have g:=Et.alloc w ob
 have h':=h.HO g
 have hne:∀id b,β id=some b->id≠x:=λid b e=>by grind
 refine ⟨h'.fr,h'.s,{h'.f with tmps:=?_,box:=?_,Bs:=?_,inj:=?_,sep:=?_}⟩
 .intro t v e
  have:=h.f.tmps t v e
  cases v<;>first
   |exact this
   |(obtain ⟨b,h1,h2⟩:=this;exact ⟨b,(if_neg (hne _ _ h1)).trans h1,h2⟩)
 .intro id cs' e
  rw [Bk] at e
  cases hb:Nat.beq x id with
  |true=>
   rw [hb] at e
   have:=Nat.eq_of_beq_eq_true hb
   subst this
   simp only [cond_true,Option.some.injEq] at e
   subst e
   exact ⟨_,if_pos rfl,by rw [heap_alloc_new w _];exact k⟩
  |false=>
   rw [hb] at e
   obtain ⟨b,h1,h2⟩:=h'.f.box id cs' e
   simp_all
 .intro id b e
  split at e
  .simp_all
  .exact Nat.lt_of_lt_of_le (h.f.Bs id b e) hle
 .intro i j b U e2
  split at U<;>split at e2
  .omega
  .injection U with U;subst U;exact absurd (h.f.sep _ _ e2).2.1 (Nat.lt_irrefl _)
  .injection e2 with e2;subst e2;exact absurd (h.f.sep _ _ U).2.1 (Nat.lt_irrefl _)
  .exact h.f.inj i j b U e2
 .intro id b e
  split at e
  .injection e with e
   subst e
   exact ⟨h.fr.size,GT,Kz h.s,LH h.s,(DF h.s).1,(DF h.s).2⟩
  .exact h'.f.sep id b e
theorem Rel.SF (h:Rel D I0 st0 w0 I β env st a w) {cs:List V} {vs:List Value} (k:Ao I cs vs) (ty:TypeId) {x n:Nat} (U:β x=none) (hn:x<n) (hle:env.Bs<=n):
 Rel D I0 st0 w0 I (λi=>if i=x then some w.heap.size else β i) {env with boxes:=(x,cs)::env.boxes,Bs:=n} st a (w.alloc (.cells vs.toArray ty)):=h.YT (.inl ⟨vs,ty,rfl,k⟩) U hn hle
theorem Rel.nI (h:Rel D I0 st0 w0 I β env st a w) {cs:List V} {vs:List Value} (k:Ao I cs vs) (ty:TypeId):
 Rel D I0 st0 w0 I (λi=>if i=env.Bs then some w.heap.size else β i) {env with boxes:=(env.Bs,cs)::env.boxes,Bs:=env.Bs+1} st a (w.alloc (.cells vs.toArray ty)):=
 h.SF k ty (by
  cases e:β env.Bs with
  |none=>rfl
  |some b=>exact absurd (h.f.Bs _ _ e) (Nat.lt_irrefl _)) (Nat.lt_succ_self _) (Nat.le_succ _)
theorem Rel.yV (h:Rel D I0 st0 w0 I β env st a w) {n:Nat} (hn:env.Bs<=n):Rel D I0 st0 w0 I β {env with Bs:=n} st a w:=
 ⟨h.fr,h.s,{h.f with Bs:=λid b e=>Nat.lt_of_lt_of_le (h.f.Bs id b e) hn}⟩
theorem Rel.Lp (h:Rel D I0 st0 w0 I β env st a w) {cs:List V} {vs:List Value} (k:Ao I cs vs) (ty:TypeId):
 Rel D I0 st0 w0 I β env (st.Aa w.heap.size cs) a (w.alloc (.cells vs.toArray ty)):=by
 have g:=Et.alloc w (.cells vs.toArray ty)
 have U:=h.HO g
 refine ⟨{U.fr with LQ:=?_},{U.s with box:=?_,Iz:=?_},{U.f with sep:=?_}⟩
 .intro b hb
  by_cases e:b=w.heap.size
  .exact .inl (by rw [e];exact h.fr.size)
  .refine h.fr.LQ b ?_
   simpa [St.Aa,e] using hb
 .intro b cs' e
  simp only [St.Aa] at e
  split at e
  .rename_i hb;subst hb;injection e with e;subst e;exact ⟨vs,ty,heap_alloc_new w _,k⟩
  .exact U.s.box b cs' e
 .intro b e
  by_cases hb:b=w.heap.size
  .subst hb;exact ⟨Kz h.s,(DF h.s).2,LH h.s⟩
  .exact h.s.Iz b (by simpa [St.Aa,hb] using e)
 .intro id b e
  obtain ⟨h1,h2,h3,h4,h5,h6⟩:=h.f.sep id b e
  have:b≠w.heap.size:=AC
  exact ⟨h1,UV,h3,h4,by simp [St.Aa,this,h5],h6⟩
def Mem.add (I:Mem) (b h:Nat) (vs:List Value) (n:Nat):Mem where
 cell:=λx o=>if x=b/\h<=o/\o<h+vs.length then vs[o - h]? else I.cell x o
 shape:=λx=>if x=b then some n else I.shape x
theorem Mem.SC {I:Mem} {b h n:Nat} {vs:List Value} (k:∀o,h<=o->I.cell b o=none) (U:I.shape b=none\/I.shape b=some n):I.le (I.add b h vs n):=by
 constructor
 .intro x o v e
  simp only [Mem.add]
  grind
 .intro x m e
  simp only [Mem.add]
  grind
theorem CV.add {I:Mem} {b h n:Nat} {vs:List Value}:∀(l:List V) (us:List Value) (o:Nat),Ao I l us->I.le (I.add b h vs n)->
 (∀j c,us[j]? =some c->(I.add b h vs n).cell b (o+j)=some c)->CV (I.add b h vs n) b o l
 |[],us,o,k,hl,U=>by simp only [CV]
 |v::r,us,o,k,hl,U=>by
  simp only [Ao] at k
  obtain ⟨c,s,e,k1,k2⟩:=k
  subst e
  simp only [CV]
  refine ⟨⟨c,by simpa using U 0 c GT,AM.mono hl _ _ k1⟩,CV.add r s (o+1) k2 hl λj c' hj=>?_⟩
  have:=U (j+1) c' i7
  grind
def Cc (I:Mem) (sz:Nat):List (List V)->List Value->Prop
 |[],vs=>vs=[]
 |e::r,vs=>∃us s,vs=us++s/\e.length=sz/\Ao I e us/\Cc I sz r s
theorem Cc.length {I:Mem} {sz:Nat}:∀{l:List (List V)} {vs:List Value},Cc I sz l vs->vs.length=l.length*sz
 |[],vs,k=>by simp only [Cc] at k;simp_all
 |e::r,vs,k=>by
  simp only [Cc] at k
  obtain ⟨us,s,U,h1,h2,h3⟩:=k
  subst U
  rw [List.length_append,<-Ao.length h2,h1,Cc.length h3,List.length_cons,Nat.add_mul];omega
theorem Cq.add {I:Mem} {b h n sz:Nat} {vs:List Value}:∀(l:List (List V)) (us:List Value) (o:Nat),Cc I sz l us->I.le (I.add b h vs n)->
 (∀j c,us[j]? =some c->(I.add b h vs n).cell b (o+j)=some c)->Cq (I.add b h vs n) sz b o l
 |[],us,o,k,hl,U=>by simp only [Cq]
 |e::r,us,o,k,hl,U=>by
  simp only [Cc] at k
  obtain ⟨u1,s,e1,h1,h2,h3⟩:=k
  subst e1
  have hu:u1.length=sz:=by rw [<-Ao.length h2,h1]
  simp only [Cq]
  refine ⟨⟨h1,CV.add e u1 o h2 hl λj c hj=>U j c ?_⟩,Cq.add r s (o+sz) h3 hl λj c hj=>?_⟩
  .grind
  .have:=U (sz+j) c (by grind)
   grind
theorem Mem.Mi {I:Mem} {b h n:Nat} {vs:List Value} {j:Nat} {c:Value} (hj:vs[j]? =some c):(I.add b h vs n).cell b (h+j)=some c:=by
 have U:j<vs.length:=by
  rcases Nat.lt_or_ge j vs.length with h|h
  .exact h
  .simp_all
 show (if b=b/\h<=h+j/\h+j<h+vs.length then vs[h+j - h]? else I.cell b (h+j))=some c
 simp_all
theorem Iw.mem {B:Nat} {J:Mem} {st':St} (h:Iw D B I β env st a w) (U:I.le J)
 (hs:∀id b,β id=some b->(∀o,J.cell b o=none)/\J.shape b=none/\st'.box b=none/\st'.hw b=none):Iw D B J β env st' a w where
 size:=h.size
 tmps t v e:=(h.tmps t v e).mono U
 box id cs e:=by obtain ⟨b,h1,h2⟩:=h.box id cs e;exact ⟨b,h1,h2.mono U⟩
 Bs:=h.Bs
 inj:=h.inj
 sep id b e:=⟨(h.sep id b e).1,(h.sep id b e).2.1,hs id b e⟩
 defers:=h.defers
theorem Rel.newRow (h:Rel D I0 st0 w0 I β env st a w) (vs rest:List Value) (ty:TypeId):
 Rel D I0 st0 w0 (I.add w.heap.size 0 vs (vs.length+rest.length)) β env (st.BZ w.heap.size vs.length) a (w.alloc (.cells (vs++rest).toArray ty)):=by
 have g:=Et.alloc w (.cells (vs++rest).toArray ty)
 have h':=h.HO g
 have hl:I.le (I.add w.heap.size 0 vs (vs.length+rest.length)):=Mem.SC (λo _=>Kz h.s o) (.inl (LH h.s))
 refine ⟨{h'.fr with le:=Mem.le_trans h.fr.le hl,new:=?_,LU:=?_,LQ:=?_},⟨?_,?_,?_,?_,?_,VN hl.1 hl.2 h.s.T0⟩,Iw.mem h'.f hl ?_⟩
 .intro b o h1 h2
  by_cases e:b=w.heap.size
  .exact .inl (by rw [e];exact h.fr.size)
  .exact h.fr.new b o h1 (by simpa [Mem.add,e] using h2)
 .intro b h1 h2
  by_cases e:b=w.heap.size
  .exact .inl (by rw [e];exact h.fr.size)
  .exact h.fr.LU b h1 (by simpa [Mem.add,e] using h2)
 .intro b hb
  by_cases e:b=w.heap.size
  .exact .inl (by rw [e];exact h.fr.size)
  .refine h.fr.LQ b ?_
   simpa [St.BZ,e] using hb
 .intro b o v e
  simp only [Mem.add] at e
  split at e
  .rename_i hb
   obtain ⟨rfl,h1,h2⟩:=hb
   simp only [World.cell?,heap_alloc_new]
   grind
  .exact h'.s.cell b o v e
 .intro b n e
  simp only [Mem.add] at e
  split at e
  .rename_i hb;subst hb;injection e with e;subst e;exact ⟨_,ty,heap_alloc_new w _,GT⟩
  .exact h'.s.shape b n e
 .intro b cs e
  obtain ⟨us,ty',h1,h2⟩:=h'.s.box b cs e
  exact ⟨us,ty',h1,Ao.mono hl _ _ h2⟩
 .intro b e
  have U:b≠w.heap.size:=λhb=>e (by rw [hb];exact (DF h.s).1)
  obtain ⟨h1,h2,h3⟩:=h.s.Iz b e
  exact ⟨λo=>by simp [Mem.add,U,h1 o],by simp [St.BZ,U,h2],by simp [Mem.add,U,h3]⟩
 .intro b n e
  simp only [St.BZ] at e
  split at e
  .rename_i hb
   subst hb
   injection e with e
   subst e
   exact ⟨GT,λo ho=>by simp only [Mem.add];rw [if_neg AC];exact Kz h.s o⟩
  .rename_i hb
   exact ⟨(h'.s.hw b n e).1,λo ho=>by simp only [Mem.add];rw [if_neg (by simp [hb])];exact (h'.s.hw b n e).2 o ho⟩
 .intro id b e
  obtain ⟨h1,h2,h3,h4,h5,h6⟩:=h.f.sep id b e
  have U:b≠w.heap.size:=AC
  exact ⟨λo=>by simp [Mem.add,U,h3 o],by simp [Mem.add,U,h4],h5,by simp [St.BZ,U,h6]⟩
theorem Rel.Hs {st':St} (h:Rel D I0 st0 w0 I β env st a w) (k:st'.le st):Rel D I0 st0 w0 I β env st' a w:=by
 have hb:∀b,st'.box b≠none->st.box b≠none:=λb e=>by
  cases U:st'.box b with
  |none=>simp_all
  |some c=>rw [k.1 b c U];simp
 have U:∀b,st'.hw b≠none->st.hw b≠none:=λb e=>by
  cases U:st'.hw b with
  |none=>simp_all
  |some c=>rw [k.2 b c U];simp
 have nb:∀b,st.box b=none->st'.box b=none:=λb e=>by grind
 have nh:∀b,st.hw b=none->st'.hw b=none:=λb e=>by grind
 refine ⟨{h.fr with LQ:=λb e=>h.fr.LQ b (e.imp (hb b) (U b))},{h.s with box:=λb cs e=>h.s.box b cs (k.1 b cs e),Iz:=λb e=>?_,hw:=λb n e=>h.s.hw b n (k.2 b n e)},
  {h.f with sep:=λid b e=>?_}⟩
 .obtain ⟨h1,h2,h3⟩:=h.s.Iz b (hb b e);simp_all
 .obtain ⟨h1,h2,h3,h4,h5,h6⟩:=h.f.sep id b e;simp_all
theorem Rel.Ig {env':Env} (h:Rel D I0 st0 w0 I β env st a w) (k:env'.le env):
 Rel D I0 st0 w0 I (λid=>if (assoc env'.boxes id).isSome then β id else none) env' st a w:=by
 obtain ⟨k1,k2,k3,k4⟩:=k
 refine ⟨h.fr,h.s,⟨h.f.size.trans k1.symm,?_,?_,?_,?_,?_,h.f.defers⟩⟩
 .intro t v e
  rcases k2 t v e with rfl|⟨h1,h2⟩
  .exact A2.of (v:=.BE) (by simp only [AM])
  .have:=h.f.tmps t v h1
   cases v<;>first
    |exact this
    |(obtain ⟨b,h3,h4⟩:=this;exact ⟨b,(if_pos (by simpa only [V.OW] using h2)).trans h3,h4⟩)
 .intro id cs e
  obtain ⟨b,h1,h2⟩:=h.f.box id cs (k3 id cs e)
  simp_all
 .intro id b e
  split at e
  .rename_i hs
   cases ha:assoc env'.boxes id with
   |none=>simp_all
   |some cs=>simp_all
  grind
 .intro i j b U e2
  split at U<;>split at e2<;>first|cases U;done|cases e2;done|exact h.f.inj i j b U e2
 .intro id b e
  split at e
  .exact h.f.sep id b e
  grind
theorem Rel.put (h:Rel D I0 st0 w0 I β env st a w) {v:V} {c:Value} (k:A2 I β v c) {t:Nat} (ht:t<env.sz):
 Rel D I0 st0 w0 I β {env with tmps:=(t,v)::env.tmps} st (a.put (some t) c) w:=by
 refine ⟨h.fr,h.s,{h.f with size:=?_,tmps:=?_,defers:=h.f.defers}⟩
 .simpa [Act.put] using h.f.size
 .intro t' v' e
  rw [Bk] at e
  cases hb:Nat.beq t t' with
  |true=>
   rw [hb] at e
   have:=Nat.eq_of_beq_eq_true hb
   subst this
   simp only [cond_true,Option.some.injEq] at e
   subst e
   have U:t<a.tmps.size:=by rw [h.f.size];exact ht
   simpa [Act.put,U] using k
  |false=>
   rw [hb] at e
   have hne:t≠t':=λx=>by simp_all
   have:=h.f.tmps t' v' e
   simpa [Act.put,Array.getElem?_setIfInBounds_ne hne] using this
theorem Rel.cW (h:Rel D I0 st0 w0 I β env st a w) {id b:Nat} {cs cs':List V} {vs us:List Value} {ty:TypeId} (hb:β id=some b) (hw:w.heap[b]? =some (.cells vs.toArray ty (0,0)))
 (k:Ao I cs' us):Rel D I0 st0 w0 I β {env with boxes:=(id,cs')::env.boxes} st a (w.setRow b us.toArray):=by
 obtain ⟨s1,s2,s3,s4,s5,s6⟩:=h.f.sep id b hb
 have hn:=setRow_heap w b vs.toArray us.toArray ty (0,0) hw
 have ho:∀x,x≠b->(w.setRow b us.toArray).heap[x]? =w.heap[x]? :=λx U=>setRow_other w b x us.toArray U
 refine ⟨⟨h.fr.os,h.fr.tape,h.fr.output,by grind,λx U h1 h2=>?_,h.fr.le,h.fr.new,h.fr.LU,h.fr.LQ⟩,⟨?_,?_,?_,h.s.Iz,?_,h.s.T0⟩,⟨h.f.size,h.f.tmps,?_,h.f.Bs,h.f.inj,?_,h.f.defers⟩⟩
 .rw [ho x AC];exact h.fr.IL x U h1 h2
 .intro x o v e
  have U:x≠b:=λU=>by simp_all
  rw [Hi (ho x U)];exact h.s.cell x o v e
 .intro x n e
  have U:x≠b:=λU=>by simp_all
  obtain ⟨c,ty',h1,h2⟩:=h.s.shape x n e
  simp_all
 .intro x n e
  have U:x≠b:=λU=>by simp_all
  obtain ⟨c,ty',h1,h2⟩:=h.s.box x n e
  simp_all
 .intro x n e
  exact ⟨by simpa using (h.s.hw x n e).1,(h.s.hw x n e).2⟩
 .intro id' c e
  rw [Bk] at e
  cases hq:Nat.beq id id' with
  |true=>
   rw [hq] at e
   have:=Nat.eq_of_beq_eq_true hq
   subst this
   simp only [cond_true,Option.some.injEq] at e
   subst e
   exact ⟨b,hb,.inl ⟨us,ty,hn,k⟩⟩
  |false=>
   rw [hq] at e
   obtain ⟨b',h1,h2⟩:=h.f.box id' c e
   have U:b'≠b:=λU=>by
    subst U
    have:=h.f.inj _ _ _ h1 hb
    simp_all
   simp_all
 .intro id' b' e
  obtain ⟨h1,h2,h3⟩:=h.f.sep id' b' e
  simp_all
theorem Rel.K3 (h:Rel D I0 st0 w0 I β env st a w) {b:Nat} {cs cs':List V} {vs us:List Value} {ty:TypeId} (hb:st.box b=some cs) (hw:w.heap[b]? =some (.cells vs.toArray ty (0,0)))
 (k:Ao I cs' us):Rel D I0 st0 w0 I β env (st.Aa b cs') a (w.setRow b us.toArray):=by
 obtain ⟨s3,s6,s4⟩:=h.s.Iz b i7
 have hn:=setRow_heap w b vs.toArray us.toArray ty (0,0) hw
 have ho:∀x,x≠b->(w.setRow b us.toArray).heap[x]? =w.heap[x]? :=λx U=>setRow_other w b x us.toArray U
 have hd:=h.fr.LQ b (.inl i7)
 have nb:∀x,(st.Aa b cs').box x≠none->st.box x≠none:=λx e=>by
  by_cases U:x=b
  .simp_all
  .simpa [St.Aa,U] using e
 refine ⟨⟨h.fr.os,h.fr.tape,h.fr.output,by simpa using h.fr.size,λx U h1 h2=>?_,h.fr.le,h.fr.new,h.fr.LU,λx e=>h.fr.LQ x (e.imp (nb x) id)⟩,⟨?_,?_,?_,λx e=>h.s.Iz x (nb x e),?_,h.s.T0⟩,⟨h.f.size,h.f.tmps,?_,h.f.Bs,h.f.inj,?_,h.f.defers⟩⟩
 .have hne:x≠b:=λe=>by grind
  rw [ho x hne];exact h.fr.IL x U h1 h2
 .intro x o v e
  have U:x≠b:=λU=>by simp_all
  rw [Hi (ho x U)];exact h.s.cell x o v e
 .intro x n e
  have U:x≠b:=λU=>by simp_all
  obtain ⟨c,ty',h1,h2⟩:=h.s.shape x n e
  simp_all
 .intro x c e
  simp only [St.Aa] at e
  split at e
  .simp_all
  .rename_i U
   obtain ⟨c',ty',h1,h2⟩:=h.s.box x c e
   simp_all
 .intro x n e
  exact ⟨by simpa using (h.s.hw x n e).1,(h.s.hw x n e).2⟩
 .intro id' c e
  obtain ⟨b',h1,h2⟩:=h.f.box id' c e
  have U:b'≠b:=λU=>by
   subst U
   have:=(h.f.sep id' b' h1).2.2.2.2.1
   simp_all
  simp_all
 .intro id' b' e
  obtain ⟨h1,h2,h3,h4,h5,h6⟩:=h.f.sep id' b' e
  have U:b'≠b:=λU=>by simp_all
  exact ⟨h1,i7,h3,h4,by grind,h6⟩
theorem Rel.kG (h:Rel D I0 st0 w0 I β env st a w) {b n m:Nat} {cur:List Value} {ty:TypeId} (hh:st.hw b=some n) (hw:w.heap[b]? =some (.cells cur.toArray ty (0,0))) (hs:I.shape b=some m)
 (vs:List Value) (hle:n+vs.length<=cur.length):
 Rel D I0 st0 w0 (I.add b n vs m) β env ((st.Ew b).BZ b (n+vs.length)) a (w.setRow b (cur.take n++vs++cur.drop (n+vs.length)).toArray):=by
 have hf:=(h.s.hw b n hh).2
 have hl:I.le (I.add b n vs m):=Mem.SC hf (.inr hs)
 have hn:=setRow_heap w b cur.toArray (cur.take n++vs++cur.drop (n+vs.length)).toArray ty (0,0) hw
 have ho:∀x,x≠b->(w.setRow b (cur.take n++vs++cur.drop (n+vs.length)).toArray).heap[x]? =w.heap[x]? :=λx U=>setRow_other w b x _ U
 have hd:=h.fr.LQ b (.inr i7)
 have hbx:st.box b=none:=by
  cases e:st.box b with
  |none=>rfl
  |some c=>have:=(h.s.Iz b i7).2.1;simp_all
 have nh:∀x,((st.Ew b).BZ b (n+vs.length)).hw x≠none->st.hw x≠none:=λx e=>by
  by_cases U:x=b
  .simp_all
  .simpa [St.BZ,St.Ew,U] using e
 have hlen:(cur.take n++vs++cur.drop (n+vs.length)).length=cur.length:=UV
 refine ⟨⟨h.fr.os,h.fr.tape,h.fr.output,by simpa using h.fr.size,λx U h1 h2=>?_,Mem.le_trans h.fr.le hl,?_,?_,λx e=>h.fr.LQ x (e.imp id (nh x))⟩,⟨?_,?_,?_,?_,?_,VN hl.1 hl.2 h.s.T0⟩,
  ⟨h.f.size,λt v e=>(h.f.tmps t v e).mono hl,?_,h.f.Bs,h.f.inj,?_,h.f.defers⟩⟩
 .have hne:x≠b:=λe=>by grind
  rw [ho x hne];exact h.fr.IL x U h1 h2
 .intro x o h1 h2
  by_cases e:x=b
  .simp_all
  .exact h.fr.new x o h1 (by simpa [Mem.add,e] using h2)
 .intro x h1 h2
  by_cases e:x=b
  .simp_all
  .exact h.fr.LU x h1 (by simpa [Mem.add,e] using h2)
 .intro x o v e
  simp only [Mem.add] at e
  split at e
  .rename_i U
   obtain ⟨rfl,h1,h2⟩:=U
   simp only [World.cell?,hn,Option.isSome_none,Bool.false_eq_true,if_false,List.getElem?_toArray]
   grind
  .rename_i U
   by_cases hxb:x=b
   .subst hxb
    have hc:=h.s.cell x o v e
    have hlt:o<n:=by
     rcases Nat.lt_or_ge o n with h'|h'
     .exact h'
     .simp_all
    simp only [World.cell?,hw,Option.isSome_none,Bool.false_eq_true,if_false,List.getElem?_toArray] at hc
    simp only [World.cell?,hn,Option.isSome_none,Bool.false_eq_true,if_false,List.getElem?_toArray]
    grind
   .rw [Hi (ho x hxb)];exact h.s.cell x o v e
 .intro x k e
  simp only [Mem.add] at e
  split at e
  .rename_i U
   subst U
   injection e with e
   subst e
   obtain ⟨c,ty',h1,h2⟩:=h.s.shape x _ hs
   simp_all
  .rename_i U
   obtain ⟨c,ty',h1,h2⟩:=h.s.shape x k e
   simp_all
 .intro x c e
  have U:x≠b:=λU=>by
   subst U
   rw [show ((st.Ew x).BZ x (n+vs.length)).box x=st.box x from rfl,hbx] at e;cases e
  obtain ⟨c',ty',h1,h2⟩:=h.s.box x c e
  exact ⟨c',ty',i7,Ao.mono hl _ _ h2⟩
 .intro x e
  have U:x≠b:=λU=>e (by subst U;exact hbx)
  obtain ⟨h1,h2,h3⟩:=h.s.Iz x e
  exact ⟨λo=>by simp [Mem.add,U,h1 o],by grind,by simp [Mem.add,U,h3]⟩
 .intro x k e
  simp only [St.BZ,St.Ew] at e
  split at e
  .rename_i U
   subst U
   injection e with e
   subst e
   exact ⟨by grind,λo ho'=>by simp only [Mem.add];grind⟩
  .rename_i U
   first|rw [if_neg U] at e|skip
   exact ⟨by simpa using (h.s.hw x k e).1,λo ho'=>by simp only [Mem.add];rw [if_neg (by simp [U])];exact (h.s.hw x k e).2 o ho'⟩
 .intro id' c e
  obtain ⟨b',h1,h2⟩:=h.f.box id' c e
  have U:b'≠b:=λU=>by
   subst U
   have:=(h.f.sep id' b' h1).2.2.2.2.2
   simp_all
  exact ⟨b',h1,by rw [ho b' U];exact h2.mono hl⟩
 .intro id' b' e
  obtain ⟨h1,h2,h3,h4,h5,h6⟩:=h.f.sep id' b' e
  have U:b'≠b:=λU=>by simp_all
  exact ⟨h1,i7,λo=>by simp [Mem.add,U,h3 o],by simp [Mem.add,U,h4],h5,by grind⟩
theorem Rel.pD (h:Rel D I0 st0 w0 I β env st a w) {b n:Nat} {cur:List Value} {ty:TypeId} (hh:st.hw b=some n) (hw:w.heap[b]? =some (.cells cur.toArray ty (0,0)))
 (vs:List Value) (hle:n+vs.length<=cur.length):Rel D I0 st0 w0 I β env st a (w.setRow b (cur.take n++vs++cur.drop (n+vs.length)).toArray):=by
 have hf:=(h.s.hw b n hh).2
 have hn:=setRow_heap w b cur.toArray (cur.take n++vs++cur.drop (n+vs.length)).toArray ty (0,0) hw
 have ho:∀x,x≠b->(w.setRow b (cur.take n++vs++cur.drop (n+vs.length)).toArray).heap[x]? =w.heap[x]? :=λx hx=>setRow_other w b x _ hx
 have hd:=h.fr.LQ b (.inr i7)
 have hbx:st.box b=none:=by
  cases e:st.box b with
  |none=>rfl
  |some c=>have:=(h.s.Iz b i7).2.1;simp_all
 have hlen:(cur.take n++vs++cur.drop (n+vs.length)).length=cur.length:=UV
 refine ⟨⟨h.fr.os,h.fr.tape,h.fr.output,by simpa using h.fr.size,λx hx U h2=>?_,h.fr.le,h.fr.new,h.fr.LU,h.fr.LQ⟩,⟨?_,?_,?_,h.s.Iz,λx k e=>⟨by simpa using (h.s.hw x k e).1,(h.s.hw x k e).2⟩,h.s.T0⟩,
  ⟨h.f.size,h.f.tmps,?_,h.f.Bs,h.f.inj,?_,h.f.defers⟩⟩
 .have hne:x≠b:=λe=>by grind
  rw [ho x hne];exact h.fr.IL x hx U h2
 .intro x o v e
  by_cases hxb:x=b
  .subst hxb
   have hc:=h.s.cell x o v e
   have hlt:o<n:=by
    rcases Nat.lt_or_ge o n with h'|h'
    .exact h'
    .simp_all
   simp only [World.cell?,hw,Option.isSome_none,Bool.false_eq_true,if_false,List.getElem?_toArray] at hc
   simp only [World.cell?,hn,Option.isSome_none,Bool.false_eq_true,if_false,List.getElem?_toArray]
   grind
  .rw [Hi (ho x hxb)];exact h.s.cell x o v e
 .intro x k e
  obtain ⟨c,ty',U,h2⟩:=h.s.shape x k e
  by_cases hxb:x=b
  .subst hxb
   rw [hw] at U
   injection U with U
   injection U with U
   exact ⟨_,ty,hn,by rw [<-h2,<-U,List.size_toArray,List.size_toArray,hlen]⟩
  .exact ⟨c,ty',by rw [ho x hxb];exact U,h2⟩
 .intro x c e
  have hx:x≠b:=λhx=>by simp_all
  obtain ⟨c',ty',U,h2⟩:=h.s.box x c e
  exact ⟨c',ty',i7,h2⟩
 .intro id' c e
  obtain ⟨b',U,h2⟩:=h.f.box id' c e
  have hx:b'≠b:=λhx=>by
   subst hx
   have:=(h.f.sep id' b' U).2.2.2.2.2
   simp_all
  exact ⟨b',U,by rw [ho b' hx];exact h2⟩
 .intro id' b' e
  obtain ⟨U,h2,h3,h4,h5,h6⟩:=h.f.sep id' b' e
  simp_all
theorem Rel.called {I1:Mem} {U:St} {w1:World} (h:Rel D I0 st0 w0 I β env st a w) (f:Fr I st w I1 U w1) (s:Cv I1 U w1):Rel D I0 st0 w0 I1 β env U a w1:=by
 have key:∀id b,β id=some b->(∀o,I1.cell b o=none)/\U.box b=none/\U.hw b=none/\w1.heap[b]? =w.heap[b]? :=λid b e=>by
  obtain ⟨h1,h2,h3,h4,h5,h6⟩:=h.f.sep id b e
  refine ⟨λo=>?_,?_,?_,f.IL b h2 h5 h6⟩
  .cases hc:I1.cell b o with
   |none=>rfl
   |some v=>rcases f.new b o (h3 o) (by rw [hc];simp) with h|h|h<;>first|omega|contradiction
  .cases hc:U.box b with
   |none=>rfl
   |some v=>rcases f.LQ b (.inl (by rw [hc];simp)) with h|h|h<;>first|omega|contradiction
  .cases hc:U.hw b with
   |none=>rfl
   |some v=>rcases f.LQ b (.inr (by rw [hc];simp)) with h|h|h<;>first|omega|contradiction
 refine ⟨h.fr.trans f,s,⟨h.f.size,λt v e=>(h.f.tmps t v e).mono f.le,?_,h.f.Bs,h.f.inj,?_,h.f.defers⟩⟩
 .intro id cs e
  obtain ⟨b,h1,h2⟩:=h.f.box id cs e
  exact ⟨b,h1,by rw [(key id b h1).2.2.2];exact h2.mono f.le⟩
 .intro id b e
  obtain ⟨h1,h2,h3,h4,h5,h6⟩:=h.f.sep id b e
  obtain ⟨k1,k2,k3,k4⟩:=key id b e
  refine ⟨h1,Nat.lt_of_lt_of_le h2 f.size,k1,?_,k2,k3⟩
  cases hc:I1.shape b with
  |none=>rfl
  |some v=>rcases f.LU b h4 (by rw [hc];simp) with h|h|h<;>first|omega|contradiction
end
def Mem.empty:Mem:=⟨λ_ _=>none,λ_=>none⟩
theorem Mem.empty_le (I:Mem):Mem.empty.le I:=⟨λ_ _ _ h=>(by cases h),λ_ _ h=>(by cases h)⟩
def TJ:TypeDesc->Bool
 | .struct _| .array _ _=>true
 |_=>false
def dU (P:Program) (t:TypeId) (z:List V):Bool:=
 !P.stoodInHeld t&& !P.eqGuardType P.depth t&&match P.underlying t with
 |some (.struct fs)=>fs.size==z.length&&(List.range z.length).all λi=>match fs.toList[i]?,z[i]? with
  | some f, some v => f.name != "_" && f.offset == i && P.plainKey f.type && match v, P.underlying f.type with
    | .int _ _,some (.int _)=>true
    | .str _,some .string=>true
    | .bool _,some .bool=>true
    |_,_=>false
  |_,_=>false
 |_=>false
def On (P:Program) (t:TypeId):Ty->Prop
 | .sc z=>∃i d c,P.info? t=some i/\P.underlying t=some d/\TJ d=false/\i.size=1/\i.zero=some c/\AM Mem.empty z c/\c.cells=#[c]/\z.known=true/\z.cells=[z]/\
    (match z with| .str _=>d=.string| .Dt=>∃ms,d=.interface ms| .int k _=>d=.int k| .bool _=>d=.bool|_=>∀ms,d≠.interface ms)
 | .slice e sz bytes=>∃i j c,P.info? t=some i/\P.underlying t=some (.slice e)/\i.size=1/\i.zero=some (.slice none 0 0)/\P.info? e=some j/\j.size=sz/\j.bytes=bytes/\0<sz/\j.zero=some c/\c.cells.size=sz
 | .struct U z=>∃i fields,∃zs:List Value,P.info? t=some i/\P.underlying t=some (.struct fields)/\i.size=z.length/\i.zero=some (.agg zs.toArray)/\Ao Mem.empty z zs/\ 
    fields.size=U.length/\(∀(n o s:Nat),U[n]? =some (o,s)->∃(f:Field) (j:TypeInfo),(fields[n]? =some f/\f.offset=o/\P.info? f.type=some j/\j.size=s))/\
    (dZ z=true->dU P t z=true)/\(∀n o:Nat,U[n]? =some (o,1)->∃(f:Field) (d:TypeDesc),fields[n]? =some f/\f.offset=o/\P.underlying f.type=some d/\TJ d=false)
 | .arr U z=>∃i n e j,∃zs:List Value,P.info? t=some i/\P.underlying t=some (.array n e)/\i.size=z.length/\i.zero=some (.agg zs.toArray)/\Ao Mem.empty z zs/\P.info? e=some j/\
    (∀(m o s:Nat),U[m]? =some (o,s)->o=m*j.size/\s=j.size/\m<n)
def G4 (P:Program) (T:List (Nat×Ty)):Prop:=∀t ty,assoc T t=some ty->On P t ty
section
variable {D:List Deferred} {P:Program} {T:List (Nat×Ty)} {I:Mem} {β:Nat->Option Nat} {env:Env} {st:St} {a:Act} {w:World} {B:Nat}
theorem Iw.get (h:Iw D B I β env st a w) (t:Nat):A2 I β (env.get t) (a.tmps.getD t undef):=by
 simp only [Env.get]
 cases U:assoc env.tmps t with
 |none=>exact A2.of (by simp only [AM])
 |some v=>exact h.tmps t v U
theorem iX (c:Value):AM I (Ra c) c:=by
 unfold Ra
 split
 .rfl
 .rfl
 .rename_i l
  split
  .rename_i h
   simp only [AM]
   exact ⟨trivial,by simpa [Nat.blt_eq,DG] using h⟩
  .simp only [AM]
 all_goals simp only [AM]
theorem Iw.eval (h:Iw D B I β env st a w) (x:Operand):A2 I β (env.eval x) (a.eval x):=by
 cases x with
 |tmp t=>exact h.get t
 |const c=>exact A2.of (iX c)
 |global g=>exact A2.of (v:=.BE) (by simp only [AM])
 |func f=>exact A2.of (v:=.func f [] []) (by simp only [AM];exact ⟨[],[],rfl,H1,H1⟩)
theorem L5 {x:Operand} (h:Gs x=true):x=.const (.slice none 0 0):=by
 unfold Gs at h
 grind
theorem J3 {sz:Nat} (h:0<sz) (own:AE) (U:own=.full\/own=.any):AM I (.slice sz [] own) (.slice none 0 0):=by
 simp only [AM]
 exact ⟨none,0,rfl,Nat.le_refl _,by simp [DG],h,by rcases U with rfl|rfl;exact rfl;trivial,rfl⟩
theorem Iw.Bu (hT:G4 P T) (h:Iw D B I β env st a w) (t:TypeId) (x:Operand):A2 I β (env.Bu T t x) (a.eval x):=by
 simp only [Env.Bu]
 cases hn:Gs x with
 |false=>exact h.eval x
 |true=>
  have:=L5 hn
  subst this
  simp only
  split
  .rename_i e sz b ht
   obtain ⟨i,j,c,_,_,_,_,_,_,_,U,_⟩:=hT t _ ht
   exact A2.of (J3 U _ (.inl rfl))
  .exact A2.of (v:=.BE) (by simp only [AM])
theorem A2.rep {v:V} {c:Value} (h:A2 I β v c) (k:v.plain=true):AM I v c:=by
 cases v<;>first|exact h|cases k
theorem Az {t:TypeId} {d:TypeDesc} (h:P.underlying t=some d):(underlying t).run P w=.ok d w:=run_underlying h w
theorem LF {t:TypeId} {d:TypeDesc} (h:P.underlying t=some d):(isAgg t).run P w=.ok (TJ d) w:=by
 simp only [isAgg,Sem.run_bind,Az h,Result.andThen_ok]
 cases d<;>rfl
theorem Ce {t:TypeId} {i:TypeInfo} (h:P.info? t=some i):(sizeOf t).run P w=.ok i.size w:=by
 simp [sizeOf,typeInfo,h]
theorem EB {t:TypeId} {i:TypeInfo} {z:Value} (h:P.info? t=some i) (U:i.zero=some z):(zeroValue t).run P w=.ok z w:=by
 simp [zeroValue,typeInfo,h,U]
def Ty.one:Ty->Prop
 | .struct _ _| .arr _ _=>False
 |_=>True
theorem On.sc {t:TypeId} {ty:Ty} (h:On P t ty) (k:ty.one):∃i d c,P.info? t=some i/\P.underlying t=some d/\TJ d=false/\i.size=1/\i.zero=some c/\AM Mem.empty ty.zero c/\c.cells=#[c]:=by
 cases ty with
 |sc z=>
  obtain ⟨i,d,c,U,h2,h3,h4,h5,h6,h7,_⟩:=h
  exact ⟨i,d,c,U,h2,h3,h4,h5,h6,h7⟩
 |slice e sz b=>
  obtain ⟨i,j,c,U,h2,h3,h4,h5,h6,h7,h8,_⟩:=h
  exact ⟨i,.slice e,.slice none 0 0,U,h2,rfl,h3,h4,J3 h8 _ (.inl rfl),rfl⟩
 |struct _ _=>exact k.elim
 |arr _ _=>exact k.elim
theorem Ta {t:TypeId} {ty:Ty} (h:On P t ty) (k:ty.one) {U:Addr} {v:Value} (hv:w.cell? U=some v):(loadVar t U).run P w=.ok v w:=by
 obtain ⟨i,d,c,h1,h2,h3,_⟩:=h.sc k
 simp only [loadVar,Sem.run_bind,LF h2,h3,Result.andThen_ok,Bool.false_eq_true,if_false,run_load,hv]
theorem CH (b o n:Nat):(⟨b,o,none⟩:Addr).add n=⟨b,o+n,none⟩:=by unfold Addr.add;simp_all
theorem HX {t:TypeId} {U:List (Nat×Nat)} {z:List V} (h:On P t (.struct U z)) {b o:Nat} {vs:List Value} (hl:vs.length=z.length)
 (hv:∀j v,vs[j]? =some v->w.cell? ⟨b,o+j,none⟩=some v):(loadVar t ⟨b,o,none⟩).run P w=.ok (.agg vs.toArray) w:=by
 obtain ⟨i,fields,zs,h1,h2,h3,_⟩:=h
 have hc:=run_loadCells_list (P:=P) w ⟨b,o,none⟩ vs (λj v e=>by rw [CH];simp_all)
 rw [hl,<-h3] at hc
 simp only [loadVar,Sem.run_bind,LF h2,TJ,Ce h1,Result.andThen_ok,if_true,hc,Sem.run_pure]
theorem Km {t:TypeId} {U:List (Nat×Nat)} {z:List V} (h:On P t (.arr U z)) {b o:Nat} {vs:List Value} (hl:vs.length=z.length)
 (hv:∀j v,vs[j]? =some v->w.cell? ⟨b,o+j,none⟩=some v):(loadVar t ⟨b,o,none⟩).run P w=.ok (.agg vs.toArray) w:=by
 obtain ⟨i,n,e,j,zs,h1,h2,h3,_⟩:=h
 have hc:=run_loadCells_list (P:=P) w ⟨b,o,none⟩ vs (λj v e=>by rw [CH];simp_all)
 rw [hl,<-h3] at hc
 simp only [loadVar,Sem.run_bind,LF h2,TJ,Ce h1,Result.andThen_ok,if_true,hc,Sem.run_pure]
theorem Ex (hT:G4 P T) {cs:List V} {vs:List Value} {b o off:Nat} {t:TypeId} {K:V->Prop} (hk:Ao I cs vs) (hv:∀j v,vs[j]? =some v->w.cell? ⟨b,o+j,none⟩=some v)
 (h:Dm cs off (assoc T t) K):∃v c,(loadVar t ⟨b,o+off,none⟩).run P w=.ok c w/\AM I v c/\K v:=by
 have scCase:∀ty:Ty,assoc T t=some ty->ty.one->(match cs[off]? with|some v=>v.force K|none=>False)->∃v c,(loadVar t ⟨b,o+off,none⟩).run P w=.ok c w/\AM I v c/\K v:=by
  intro ty ht hone h
  cases hc:cs[off]? with
  |none=>simp_all
  |some v=>
   rw [hc] at h
   obtain ⟨c,h1,h2⟩:=Ao.get hk hc
   exact ⟨v,c,Ta (hT t ty ht) hone (hv off c h1),h2,V.AJ.1 h⟩
 unfold Dm at h
 replace h:=(As.1 h).2
 split at h
 .rename_i offs z ht
  have U:=hT t _ ht
  have hlen:=Ao.length hk
  split at h
  .rename_i hb
   simp only [Bool.and_eq_true] at hb
   have h0:off=0:=Nat.eq_of_beq_eq_true hb.1
   have hz:z.length=cs.length:=Nat.eq_of_beq_eq_true hb.2
   subst h0
   exact ⟨.agg cs,.agg vs.toArray,HX U AC (λj v e=>by simp_all),by simp only [AM];simp_all,h⟩
  .obtain ⟨hle,h⟩:=As.1 h
   have hle:=Nat.le_of_ble_eq_true hle
   refine ⟨_,.agg ((vs.drop off).take z.length).toArray,HX U (by grind) (λj v e=>?_),?_,A9.1 h⟩
   .grind
   .simp only [AM]
    exact ⟨_,rfl,Ao.take _ (Ao.drop _ hk)⟩
 .rename_i offs z ht
  have U:=hT t _ ht
  have hlen:=Ao.length hk
  split at h
  .rename_i hb
   simp only [Bool.and_eq_true] at hb
   have h0:off=0:=Nat.eq_of_beq_eq_true hb.1
   have hz:z.length=cs.length:=Nat.eq_of_beq_eq_true hb.2
   subst h0
   exact ⟨.agg cs,.agg vs.toArray,Km U AC (λj v e=>by simp_all),by simp only [AM];simp_all,h⟩
  .obtain ⟨hle,h⟩:=As.1 h
   have hle:=Nat.le_of_ble_eq_true hle
   refine ⟨_,.agg ((vs.drop off).take z.length).toArray,Km U (by grind) (λj v e=>?_),?_,A9.1 h⟩
   .grind
   .simp only [AM]
    exact ⟨_,rfl,Ao.take _ (Ao.drop _ hk)⟩
 .rename_i ty hns hna ht
  exact scCase _ ht (by cases ty<;>first|trivial|exact (hns _ _ rfl).elim|exact (hna _ _ rfl).elim) h
 simp_all
end
def Zo (I:Mem):Ending->Au->Prop
 | .returned c,.ret v=>AM I v c
 | .panicked chain,.B1 v=>∃c,chain=[{v:=c,recovered:=false}]/\AM I v c
 |_,_=>False
def CE (P:Program) (f:FuncId) (args:List V) (st:St) (R:Au->St->Prop):Prop:=
 ∀(I:Mem) (w:World) (U:List Value),Cv I st w->Ao I args U->
  Calls P f U.toArray w λe w'=>∃I' st' r,Fr I st w I' st' w'/\Cv I' st' w'/\Zo I' e r/\R r st'
theorem CE.mono {P:Program} {f:FuncId} {args:List V} {st:St} {R R':Au->St->Prop} (h:CE P f args st R) (k:∀r s,R r s->R' r s):CE P f args st R':=
 λI w U h1 h2=>(h I w U h1 h2).mono λe w' ⟨I',st',r,k1,k2,k3,k4⟩=>⟨I',st',r,k1,k2,k3,k r st' k4⟩
def yz (I:Mem):Exit->AG->Prop
 | .normal,.normal=>True
 | .exit i,.exit j=>i=j
 | .goto i,.goto j=>i=j
 | .ret,.ret=>True
 | .panic chain,.B1 v=>∃c,chain=[{v:=c,recovered:=false}]/\AM I v c
 |_,_=>False
def Ca (D:List Deferred) (I0:Mem) (st0:St) (w0:World) (Q:AG->Env->St->Prop):Exit->Act->World->Prop:=
 λe a w=>∃I β env st U,Rel D I0 st0 w0 I β env st a w/\yz I e U/\Q U env st
def AW (P:Program) (c:Code) (Q:AG->Env->St->Prop) (env:Env) (st:St):Prop:=
 ∀D I0 st0 w0 I β a w,Rel D I0 st0 w0 I β env st a w->c.wp P (Ca D I0 st0 w0 Q) a w
section
variable {D:List Deferred} {P:Program} {T:List (Nat×Ty)} {C:FuncId->List V->St->(Au->St->Prop)->Prop} {I0 I:Mem} {st0 st:St} {w0 w:World} {β:Nat->Option Nat} {env:Env} {a:Act}
variable {o:Oper} {K:V->Env->St->Prop} {Q:AG->Env->St->Prop} {next:Act->World->Prop}
def CA (D:List Deferred) (I0:Mem) (st0:St) (w0:World) (U:Nat->Option Nat) (n0:Nat) (a:Act) (dst:Option Tmp) (next:Act->World->Prop) (K:V->Env->St->Prop):Prop:=
 ∀I β env st v c w,Rel D I0 st0 w0 I β env st a w->A2 I β v c->(∀id,id<n0->β id=U id)->K v env st->next (a.put dst c) w
theorem AL {c:Value} {v:V} {w':World} {I':Mem} {β':Nat->Option Nat} {env':Env} {st':St} {Qc:Exit->Act->World->Prop} (hK:CA D I0 st0 w0 β env.Bs a o.dst next K)
 (hr:(execOp a.eval o).run P w=.ok (.value c) w') (h:Rel D I0 st0 w0 I' β' env' st' a w') (hv:A2 I' β' v c) (k:K v env' st') (U:∀id,id<env.Bs->β' id=β id:=by exact λ_ _=>rfl):o.wp P a w next Qc:=by
 unfold Oper.wp;rw [hr];exact hK _ _ _ _ _ _ _ h hv U k
theorem eL {w':World} {I':Mem} {β':Nat->Option Nat} {env':Env} {st':St} {Qc:Exit->Act->World->Prop} (hK:CA D I0 st0 w0 β env.Bs a o.dst next K)
 (hr:(execOp a.eval o).run P w=.ok .skip w') (h:Rel D I0 st0 w0 I' β' env' st' a w') (k:K .BE env' st') (U:∀id,id<env.Bs->β' id=β id:=by exact λ_ _=>rfl):o.wp P a w next Qc:=by
 unfold Oper.wp;rw [hr];exact hK _ _ _ _ _ _ _ h (A2.of (v:=.BE) (by simp only [AM])) U k
theorem ES {v:V} {c:Value} (h:AM I v c) (k:v.known=true):Ao I v.cells c.cells.toList:=by
 have one:∀{u:V} {c:Value},AM I u c->c.cells=#[c]->Ao I [u] c.cells.toList:=λ{u c} h e=>by
  rw [e];simp only [Ao];simp_all
 cases v with
 |BE=>cases k
 |BO _ _=>cases k
 |agg cs=>simp only [AM] at h;obtain ⟨vs,rfl,h⟩:=h;exact h
 |bool b=>refine one h ?_;simp only [AM] at h;subst h;rfl
 |int U n=>refine one h ?_;simp only [AM] at h;subst h;rfl
 |str s=>refine one h ?_;simp only [AM] at h;rw [h.1];rfl
 |Bp cs=>refine one h ?_;simp only [AM] at h;obtain ⟨vs,rfl,_⟩:=h;rfl
 |slice sz es own=>refine one h ?_;simp only [AM] at h;obtain ⟨x,y,rfl,_⟩:=h;rfl
 |ptr b off=>refine one h ?_;simp only [AM] at h;subst h;rfl
 |Gi b off=>refine one h ?_;simp only [AM] at h;obtain ⟨x,y,rfl,_⟩:=h;rfl
 |Es=>refine one h ?_;simp only [AM] at h;subst h;rfl
 |func f x y=>refine one h ?_;simp only [AM] at h;obtain ⟨x,y,rfl,_⟩:=h;rfl
 |At=>refine one h ?_;simp only [AM] at h;subst h;rfl
 |iface t v=>refine one h ?_;simp only [AM] at h;obtain ⟨x,rfl,_⟩:=h;rfl
 |Dt=>refine one h ?_;simp only [AM] at h;subst h;rfl
 |Ql _ _=>cases k
 |FP _ _ _ _=>refine one h ?_;simp only [AM] at h;rw [h.1];rfl
 |kn l=>refine one h ?_;simp only [AM] at h;subst h;rfl
theorem FI {v:V} (h:v.known=true):v.plain=true:=by cases v<;>first|rfl|cases h
theorem xG {v:V} {c:Value} (h:AM I v c) (k:v.sc=true):c.oneCell'=true:=by
 cases v with
 |BE=>cases k
 |agg cs=>cases k
 |Bp cs=>cases k
 |BO _ _=>simp only [AM] at h
 |bool b=>simp only [AM] at h;subst h;rfl
 |int U n=>simp only [AM] at h;subst h;rfl
 |str s=>simp only [AM] at h;rw [h.1];rfl
 |slice sz es own=>simp only [AM] at h;obtain ⟨x,y,rfl,_⟩:=h;rfl
 |ptr b off=>simp only [AM] at h;subst h;rfl
 |Gi b off=>simp only [AM] at h;obtain ⟨x,y,rfl,_⟩:=h;rfl
 |Es=>simp only [AM] at h;subst h;rfl
 |func f x y=>simp only [AM] at h;obtain ⟨x,y,rfl,_⟩:=h;rfl
 |At=>simp only [AM] at h;subst h;rfl
 |iface t v=>simp only [AM] at h;obtain ⟨x,rfl,_⟩:=h;rfl
 |Dt=>simp only [AM] at h;subst h;rfl
 |Ql _ _=>cases k
 |FP _ _ _ _=>simp only [AM] at h;rw [h.1];rfl
 |kn l=>simp only [AM] at h;subst h;rfl
theorem cM:∀{l:List V} {vs:List Value},Ao I l vs->l.all V.sc=true->∀c ∈ vs,c.oneCell'=true
 |[],vs,k,h,c,U=>by simp only [Ao] at k;simp_all
 |v::r,vs,k,h,c,U=>by
  simp only [Ao] at k
  obtain ⟨c',s,e,k1,k2⟩:=k
  subst e
  simp only [List.all_cons,Bool.and_eq_true] at h
  rcases List.mem_cons.1 U with rfl|U
  .exact xG k1 h.1
  .exact cM k2 h.2 c U
theorem Gr {B:Nat} (h:Iw D B I β env st a w):∀{l:List Operand} {K:List V->Prop},XO env l K->∃vs,Ao I vs (l.map a.eval)/\K vs
 |[],K,k=>⟨[],H1,k⟩
 |x::r,K,k=>by
  rw [Yp,V.AJ] at k
  obtain ⟨hp,k⟩:=As.1 k
  obtain ⟨vs,U,h2⟩:=Gr h k
  exact ⟨_,by simp only [List.map_cons,Ao];exact ⟨_,_,rfl,(h.eval x).rep hp,U⟩,h2⟩
theorem RQ (U:G4 P T) {B:Nat} (h:Iw D B I β env st a w):∀{ts:List TypeId} {l:List Operand} {K:List V->Prop},aW T env ts l K->∃vs,Ao I vs (l.map a.eval)/\K vs
 |ts,[],K,k=>⟨[],H1,k⟩
 |ts,x::r,K,k=>by
  rw [Um,V.AJ] at k
  obtain ⟨hp,k⟩:=As.1 k
  obtain ⟨vs,h1,h2⟩:=RQ U h k
  exact ⟨_,by simp only [List.map_cons,Ao];exact ⟨_,_,rfl,(h.Bu U _ x).rep hp,h1⟩,h2⟩
theorem NQ (hK:CA D I0 st0 w0 β env.Bs a o.dst next K) (h:Rel D I0 st0 w0 I β env st a w) {cs:List V} {vs:List Value} (hv:Ao I cs vs) (ty:TypeId)
 (k:JO env st o.dst cs K):next (a.put o.dst (.pointer (some ⟨w.heap.size,0,none⟩))) (w.alloc (.cells vs.toArray ty)):=by
 unfold JO at k
 split at k
 .have k:=A9.1 k _ (DF h.s)
  exact hK _ _ _ _ _ _ _ (h.Lp hv ty) (A2.of H1) (λ_ _=>rfl) k
 .have k:=A9.1 k
  exact hK _ _ _ _ (.BO _ 0) _ _ (h.nI hv ty) (show ∃b,_/\_ from ⟨w.heap.size,if_pos rfl,rfl⟩) (λid U=>if_neg (Nat.ne_of_lt U)) k
theorem gi {B:Nat} {op:BinOp} {x y:V} {cx cy:Value} {K:V->Prop} (h1:A2 I β x cx) (h2:A2 I β y cy) (t:TypeId) (ox oy:Operand) (k:bin op x y K):
 ∃v c,(do eqGuard op t ox oy cx cy;binOp op t cx cy:Sem Value).run P w=.ok c w/\AM I v c/\K v:=by
 have U:∀{cx cy:Value},((∃k n,cx=.int k n)\/(∃s,cx=.string s))->(eqGuard op t ox oy cx cy).run P w=.ok () w:=by
  intro cx cy h
  rcases h with ⟨k,n,rfl⟩|⟨s,rfl⟩<;>(unfold eqGuard;cases op<;>rfl)
 unfold bin at k
 split at k
 .rename_i ka na kb nb
  have e1:cx=.int ka na:=by have:=h1;simpa only [A2,AM] using this
  have e2:cy=.int kb nb:=by have:=h2;simpa only [A2,AM] using this
  subst e1;subst e2
  have k':DM (decide (ka=kb)) _:=k
  rw [As] at k'
  obtain ⟨hk,k'⟩:=k'
  clear k
  have hk:=of_decide_eq_true hk
  subst hk
  revert k'
  intro k
  simp only [Sem.run_bind,U (.inl ⟨_,_,rfl⟩),Result.andThen_ok]
  have bc:∀{b:Bool} {K:V->Prop},Bn b (K (.bool true)) (K (.bool false))->K (.bool b):=λ{b K} h=>by cases b<;>first|exact A8.1 h|exact Bg.1 h
  have bcn:∀{b:Bool} {K:V->Prop},Bn b (K (.bool false)) (K (.bool true))->K (.bool (!b)):=λ{b K} h=>by cases b<;>first|exact A8.1 h|exact Bg.1 h
  cases op
  case add=>obtain ⟨r,rfl,k⟩:=k;exact ⟨_,_,by simp [binOp,Op.intArith];rfl,H1,k⟩
  case sub=>obtain ⟨r,rfl,k⟩:=k;exact ⟨_,_,by simp [binOp,Op.intArith];rfl,H1,k⟩
  case mul=>obtain ⟨r,rfl,k⟩:=k;exact ⟨_,_,by simp [binOp,Op.intArith];rfl,H1,k⟩
  case quo=>obtain ⟨hb,r,rfl,k⟩:=k;exact ⟨_,_,by simp [binOp,Op.intDiv,hb];rfl,H1,k⟩
  case rem=>obtain ⟨hb,k⟩:=k;exact ⟨_,_,by simp [binOp,Op.intDiv,hb];rfl,H1,k⟩
  case and=>obtain ⟨r,rfl,k⟩:=k;exact ⟨_,_,by simp only [binOp,Op.intBits,ne_eq,not_true_eq_false,if_false];rfl,H1,k⟩
  case eql=>exact ⟨_,_,by simp [binOp,Op.intCmp];rfl,H1,bc (K:=K) k⟩
  case neq=>exact ⟨_,_,by simp [binOp,Op.intCmp,bne];rfl,H1,bcn (K:=K) k⟩
  case lss=>exact ⟨_,_,by simp [binOp,Op.intCmp];rfl,H1,bc (K:=K) k⟩
  case leq=>exact ⟨_,_,by simp [binOp,Op.intCmp];rfl,H1,bc (K:=K) k⟩
  case gtr=>exact ⟨_,_,by simp [binOp,Op.intCmp];rfl,H1,bc (K:=K) k⟩
  case geq=>exact ⟨_,_,by simp [binOp,Op.intCmp];rfl,H1,bc (K:=K) k⟩
  all_goals exact k.elim
 .rename_i sa sb
  have e1:cx=.string ⟨sa.toArray⟩/\sa.length<DG:=by have:=h1;simpa only [A2,AM] using this
  have e2:cy=.string ⟨sb.toArray⟩/\sb.length<DG:=by have:=h2;simpa only [A2,AM] using this
  obtain ⟨rfl,l1⟩:=e1
  obtain ⟨rfl,l2⟩:=e2
  simp only [Sem.run_bind,U (.inr ⟨_,rfl⟩),Result.andThen_ok]
  have bc:∀{b:Bool} {K:V->Prop},Bn b (K (.bool true)) (K (.bool false))->K (.bool b):=λ{b K} h=>by cases b<;>first|exact A8.1 h|exact Bg.1 h
  have bcn:∀{b:Bool} {K:V->Prop},Bn b (K (.bool false)) (K (.bool true))->K (.bool (!b)):=λ{b K} h=>by cases b<;>first|exact A8.1 h|exact Bg.1 h
  have hl:∀s:List UInt8,(⟨s.toArray⟩:ByteArray).toList=s:=λs=>ByteArray.toList_mk s
  cases op
  case add=>
   obtain ⟨hlen,k⟩:=k
   refine ⟨_,.string (⟨sa.toArray⟩++⟨sb.toArray⟩),?_,?_,k⟩
   .have:¬((9223372036854775807:Int)<((sa.length+sb.length:Nat):Int)):=by simp only [DG] at hlen;omega
    have hs:(⟨sa.toArray⟩:ByteArray).size+(⟨sb.toArray⟩:ByteArray).size=sa.length+sb.length:=by
     show sa.toArray.size+sb.toArray.size=_
     simp
    have hm:IntKind.i64.max=9223372036854775807:=Do
    simp only [binOp,Op.stringOp,hs]
    simp_all
   .simp only [AM]
    refine ⟨?_,i7⟩
    congr 1
  case eql=>exact ⟨_,_,by simp only [binOp,Op.stringOp,hl];rfl,H1,bc (K:=K) k⟩
  case neq=>exact ⟨_,_,by simp only [binOp,Op.stringOp,hl];rfl,H1,bcn (K:=K) k⟩
  all_goals exact k.elim
 simp_all
end
section
variable {D:List Deferred} {P:Program} {T:List (Nat×Ty)} {C:FuncId->List V->St->(Au->St->Prop)->Prop} {I0 I:Mem} {st0 st:St} {w0 w:World} {β:Nat->Option Nat} {env:Env} {a:Act}
variable {o:Oper} {K:V->Env->St->Prop} {Q:AG->Env->St->Prop} {next:Act->World->Prop} {Qc:Exit->Act->World->Prop}
theorem Jn {b:Bool} {c:Value} (h:A2 I β (.bool b) c):c=.bool b:=by have:=h;simpa only [A2,AM] using this
theorem GP {k:IntKind} {n:Int} {c:Value} (h:A2 I β (.int k n) c):c=.int k n:=by have:=h;simpa only [A2,AM] using this
theorem Xf {s:List UInt8} {c:Value} (h:A2 I β (.str s) c):c=.string ⟨s.toArray⟩/\s.length<DG:=by have:=h;simpa only [A2,AM] using this
theorem N6 {b off:Nat} {c:Value} (h:A2 I β (.ptr b off) c):c=.pointer (some ⟨b,off,none⟩):=by have:=h;simpa only [A2,AM] using this
theorem HW {id off:Nat} {c:Value} (h:A2 I β (.BO id off) c):∃b,β id=some b/\c=.pointer (some ⟨b,off,none⟩):=h
theorem S4 {e:List V} {off:Nat} {c:Value} (h:A2 I β (.Gi e off) c):∃b o,c=.pointer (some ⟨b,o+off,none⟩)/\CV I b o e:=by have:=h;simpa only [A2,AM] using this
theorem N5 {sz b n cap:Nat} {c:Value} (h:A2 I β (.FP sz b n cap) c):c=.slice (some ⟨b,0,none⟩) n cap/\n<=cap/\n<DG/\0<sz:=by
 have U:AM I (.FP sz b n cap) c:=h
 simp only [AM] at U
 exact U
theorem Gy {sz:Nat} {es:List (List V)} {own:AE} {c:Value} (h:A2 I β (.slice sz es own) c):∃U cap,c=.slice U es.length cap/\es.length<=cap/\es.length<DG/\0<sz/\XQ I sz es.length cap U own/\
 (match U with|none=>cap=0|some U=>(cap=0\/U.spot=none)/\Cq I sz U.block U.off es):=by
 have h':AM I (.slice sz es own) c:=h
 simp only [AM] at h'
 omega
theorem Tj {x:Operand} (hT:G4 P T) (hK:CA D I0 st0 w0 β env.Bs a o.dst next K) (h:Rel D I0 st0 w0 I β env st a w) (U:o.op=.move x\/o.op=.assign x)
 (k:(env.Bu T o.type x).force λv=>K v env st):o.wp P a w next Qc:=by
 refine AL hK (c:=a.eval x) (w':=w) ?_ h (h.f.Bu hT o.type x) (V.AJ.1 k)
 rcases U with U|U<;>simp only [execOp,U]<;>rfl
theorem cT {c x y:Operand} (hT:G4 P T) (hK:CA D I0 st0 w0 β env.Bs a o.dst next K) (h:Rel D I0 st0 w0 I β env st a w) (ho:o.op=.pick c x y)
 (k:match env.eval c with
   | .bool t=>lit t ((env.Bu T o.type x).force λv=>K v env st) ((env.Bu T o.type y).force λv=>K v env st)
   |_=>False):o.wp P a w next Qc:=by
 have U:=h.f.eval c
 split at k
 .rename_i t he
  rw [he] at U
  have U:=Jn U
  cases t with
  |true=>
   have k:(env.Bu T o.type x).force λv=>K v env st:=k
   refine AL hK (c:=a.eval x) (w':=w) ?_ h (h.f.Bu hT o.type x) (V.AJ.1 k)
   simp only [execOp,ho,U];rfl
  |false=>
   have k:(env.Bu T o.type y).force λv=>K v env st:=k
   refine AL hK (c:=a.eval y) (w':=w) ?_ h (h.f.Bu hT o.type y) (V.AJ.1 k)
   simp only [execOp,ho,U];rfl
 simp_all
theorem T5 {t:TypeId} {ty:Ty} (hT:G4 P T) (I:Mem) (w:World) (a:Act) (ht:assoc T t=some ty) (ho:o.op=.alloc t):
 ∃vs:List Value,Ao I ty.zero.cells vs/\(execOp a.eval o).run P w=.ok (.value (.pointer (some ⟨w.heap.size,0,none⟩))) (w.alloc (.cells vs.toArray t)):=by
 have hz:∃(i:TypeInfo) (c:Value),P.info? t=some i/\i.zero=some c/\Ao I ty.zero.cells c.cells.toList:=by
  have hty:=hT t ty ht
  cases ty with
  |struct offs z=>
   obtain ⟨i,fields,zs,U,h2,h3,h4,h5,_⟩:=hty
   exact ⟨i,_,U,h4,Ao.mono (Mem.empty_le I) _ _ h5⟩
  |arr offs z=>
   obtain ⟨i,n,e,j,zs,U,h2,h3,h4,h5,_⟩:=hty
   exact ⟨i,_,U,h4,Ao.mono (Mem.empty_le I) _ _ h5⟩
  |sc z=>
   obtain ⟨i,d,c,U,h2,h3,h4,h5,h6,h7,h8,h9,_⟩:=hty
   exact ⟨i,c,U,h5,ES (AM.mono (Mem.empty_le I) _ _ h6) h8⟩
  |slice e sz b=>
   obtain ⟨i,j,c,U,h2,h3,h4,h5,h6,h7,h8,_⟩:=hty
   exact ⟨i,_,U,h4,ES (J3 h8 _ (.inl rfl)) rfl⟩
 obtain ⟨i,c,U,h2,h3⟩:=hz
 refine ⟨_,h3,?_⟩
 simp only [execOp,ho,Instr.alloc,Sem.run_bind,EB U h2,Result.andThen_ok,newVar,newRow,run_newObj,Sem.run_pure,World.alloc_eq,Array.toArray_toList]
theorem dB {t:TypeId} {x:Operand} (w:World) (a:Act) (U:o.op=.box t x):
 (execOp a.eval o).run P w=.ok (.value (.pointer (some ⟨w.heap.size,0,none⟩))) (w.alloc (.cells (a.eval x).cells.toList.toArray t)):=by
 simp only [execOp,U,Instr.box,Sem.run_bind,Result.andThen_ok,newVar,newRow,run_newObj,Sem.run_pure,World.alloc_eq,Array.toArray_toList]
theorem ZI {t:TypeId} (hT:G4 P T) (hK:CA D I0 st0 w0 β env.Bs a o.dst next K) (h:Rel D I0 st0 w0 I β env st a w) (ho:o.op=.alloc t)
 (k:match assoc T t with|some ty=>JO env st o.dst ty.zero.cells K|none=>False):o.wp P a w next Qc:=by
 split at k
 .rename_i ty ht
  obtain ⟨vs,U,hr⟩:=T5 (P:=P) hT I w a ht ho
  unfold Oper.wp
  rw [hr]
  exact NQ hK h U t k
 simp_all
theorem jl {t:TypeId} {x:Operand} (hT:G4 P T) (hK:CA D I0 st0 w0 β env.Bs a o.dst next K) (h:Rel D I0 st0 w0 I β env st a w) (ho:o.op=.box t x)
 (k:(env.Bu T t x).force λv=>DM v.known (JO env st o.dst v.cells K)):o.wp P a w next Qc:=by
 obtain ⟨U,k⟩:=As.1 (V.AJ.1 k)
 have hv:=(h.f.Bu hT t x).rep (FI U)
 unfold Oper.wp
 rw [dB w a ho]
 exact NQ hK h (ES hv U) t k
theorem Jc {w:World} {b:Nat} {vs:List Value} {ty:TypeId} (hb:w.heap[b]? =some (.cells vs.toArray ty (0,0))) {j:Nat} {v:Value} (U:vs[j]? =some v):w.cell? ⟨b,j,none⟩=some v:=by
 simp only [World.cell?,hb]
 simp_all
theorem MI:∀{l:List V} {b o:Nat},Cv I st w->CV I b o l->∃vs,Ao I l vs/\∀j v,vs[j]? =some v->w.cell? ⟨b,o+j,none⟩=some v
 |[],b,o,U,k=>⟨[],H1,λj v e=>by simp at e⟩
 |u::r,b,o,U,k=>by
  simp only [CV] at k
  obtain ⟨⟨c,h1,h2⟩,k2⟩:=k
  obtain ⟨vs,h3,h4⟩:=MI U k2
  refine ⟨c::vs,by simp only [Ao];grind,λj v e=>?_⟩
  cases j with
  |zero=>simp at e;subst e;exact U.cell _ _ _ h1
  |succ j=>
   grind
theorem cR {t:TypeId} {x:Operand} (hT:G4 P T) (hK:CA D I0 st0 w0 β env.Bs a o.dst next K) (h:Rel D I0 st0 w0 I β env st a w) (ho:o.op=.load t x)
 (k:match env.eval x with
 | .BO id off=>match assoc env.boxes id with
   |some cs=>Dm cs off (assoc T t) (λv=>K v env st)
   |none=>False
 | .ptr b off=>∃cs,st.box b=some cs/\Dm cs off (assoc T t) (λv=>K v env st)
 | .Gi e off=>Dm e off (assoc T t) (λv=>K v env st)
 |_=>False):o.wp P a w next Qc:=by
 have U:=h.f.eval x
 have fin:∀{ad:Addr} {c:Value} {v:V},a.eval x=.pointer (some ad)->(loadVar t ad).run P w=.ok c w->AM I v c->K v env st->o.wp P a w next Qc:=by
  intro ad c v e1 e2 e3 e4
  refine AL hK (c:=c) (w':=w) ?_ h (A2.of e3) e4
  simp only [execOp,ho,Instr.loadAt,e1,Instr.sureAddr,Sem.run_bind,Sem.run_pure,Result.andThen_ok,e2]
 split at k
 .rename_i id off he
  rw [he] at U
  obtain ⟨b,hb,U⟩:=HW U
  split at k
  .rename_i cs hcs
   obtain ⟨b',h1,h2⟩:=h.f.box id cs hcs
   rw [hb] at h1
   injection h1 with h1
   subst h1
   obtain ⟨vs,ty,h2,h3⟩:=h2.cells (L7 k)
   obtain ⟨v,c,g1,g2,g3⟩:=Ex (b:=b) (o:=0) hT h3 (λj v e=>by simpa using Jc h2 e) k
   grind
  simp_all
 .rename_i b off he
  rw [he] at U
  have U:=N6 U
  obtain ⟨cs,hcs,k⟩:=k
  obtain ⟨vs,ty,h2,h3⟩:=h.s.box b cs hcs
  obtain ⟨v,c,g1,g2,g3⟩:=Ex (b:=b) (o:=0) hT h3 (λj v e=>by simpa using Jc h2 e) k
  grind
 .rename_i e off he
  rw [he] at U
  obtain ⟨b,o',U,hc⟩:=S4 U
  obtain ⟨vs,h3,h4⟩:=MI h.s hc
  obtain ⟨v,c,g1,g2,g3⟩:=Ex hT h3 h4 k
  grind
 simp_all
theorem uA {t:TypeId} {ty:Ty} (h:On P t ty):∃i,P.info? t=some i/\i.size=ty.zero.cells.length:=by
 cases ty with
 |struct offs z=>obtain ⟨i,fields,zs,U,h2,h3,_⟩:=h;exact ⟨i,U,h3⟩
 |arr offs z=>obtain ⟨i,n,e,j,zs,U,h2,h3,_⟩:=h;exact ⟨i,U,h3⟩
 |sc z=>obtain ⟨i,d,c,U,h2,h3,h4,h5,h6,h7,h8,h9,_⟩:=h;exact ⟨i,U,by rw [h4];show 1=z.cells.length;simp_all⟩
 |slice e sz b=>obtain ⟨i,j,c,U,h2,h3,_⟩:=h;exact ⟨i,U,h3⟩
theorem Mb {t:TypeId} {ty:Ty} (hty:On P t ty) {cs:List V} {vs:List Value} {b off:Nat} {v:V} {c:Value} {U:TypeId} {K:List V->Prop}
 (hb:w.heap[b]? =some (.cells vs.toArray U (0,0))) (hk:Ao I cs vs) (hv:AM I v c) (hkn:v.known=true) (hsz:v.cells.length=ty.zero.cells.length) (k:Bm cs off v.cells K):
 ∃cs' us,(storeVar t ⟨b,off,none⟩ c).run P w=.ok () (w.setRow b us.toArray)/\Ao I cs' us/\K cs':=by
 unfold Bm at k
 obtain ⟨_,k⟩:=As.1 k
 obtain ⟨h1,k⟩:=As.1 k
 obtain ⟨h2,k⟩:=As.1 k
 have k:=A9.1 k
 have h1:=Nat.le_of_ble_eq_true h1
 have hc:=ES hv hkn
 have hlc:=Ao.length hc
 have hlv:=Ao.length hk
 obtain ⟨i,hi,hs⟩:=uA hty
 refine ⟨_,_,?_,Ao.append (Ao.append (Ao.take off hk) hc) (Ao.drop (off+v.cells.length) hk),k⟩
 have hrun:=run_storeCells_at P b off U c.cells.toList 0 vs.toArray w hb i7 (cM hc h2)
 have hcs:c.cells.size=i.size:=by rw [hs,<-hsz,hlc,Array.length_toList]
 simp only [storeVar,Sem.run_bind,Ce hi,Result.andThen_ok,hcs,ne_eq,not_true_eq_false,if_false,Sem.run_pure,hrun,Nat.add_zero]
 simp_all
theorem P7 {t:TypeId} {x y:Operand} (hT:G4 P T) (hK:CA D I0 st0 w0 β env.Bs a o.dst next K) (h:Rel D I0 st0 w0 I β env st a w) (ho:o.op=.store t x y)
 (k:match env.eval x with
 | .BO id off=>match assoc env.boxes id,assoc T t with
   |some cs,some ty=>match env with
    |⟨ts,bs,n,sz,gl⟩=>(Env.Bu T ⟨ts,bs,n,sz,gl⟩ t y).force λv=>DM (v.known&&Nat.beq v.cells.length ty.zero.cells.length)
     (Bm cs off v.cells λcs'=>K .BE ⟨ts,(id,cs')::bs,n,sz,gl⟩ st)
   |_,_=>False
 | .ptr b off=>match assoc T t with
   |some ty=>∃cs,st.box b=some cs/\(env.Bu T t y).force λv=>DM (v.known&&Nat.beq v.cells.length ty.zero.cells.length)
     (Bm cs off v.cells λcs'=>K .BE env (st.Aa b cs'))
   |none=>False
 |_=>False):o.wp P a w next Qc:=by
 have hx:=h.f.eval x
 have hy:=h.f.Bu hT t y
 have fin:∀{ad:Addr} {w':World},a.eval x=.pointer (some ad)->(storeVar t ad (a.eval y)).run P w=.ok () w'->(execOp a.eval o).run P w=.ok .skip w':=by
  intro ad w' e1 e2
  simp only [execOp,ho,Instr.storeAt,e1,Instr.sureAddr,Sem.run_bind,Sem.run_pure,Result.andThen_ok,e2]
 split at k
 .rename_i id off he
  rw [he] at hx
  obtain ⟨b,hb,hx⟩:=HW hx
  split at k
  .rename_i cs ty hcs hty
   obtain ⟨b',h1,h2⟩:=h.f.box id cs hcs
   rw [hb] at h1
   injection h1 with h1
   subst h1
   have k:=V.AJ.1 k
   obtain ⟨U,k⟩:=As.1 k
   obtain ⟨vs,ety,h2,h3⟩:=h2.cells (Xw k)
   simp only [Bool.and_eq_true] at U
   obtain ⟨cs',us,g1,g2,g3⟩:=Mb (hT t ty hty) h2 h3 (hy.rep (FI U.1)) U.1 (Nat.eq_of_beq_eq_true U.2) k
   exact eL hK (fin hx g1) (h.cW (cs:=cs) hb h2 g2) g3
  simp_all
 .rename_i b off he
  rw [he] at hx
  have hx:=N6 hx
  split at k
  .rename_i ty hty
   obtain ⟨cs,hcs,k⟩:=k
   obtain ⟨vs,ety,h2,h3⟩:=h.s.box b cs hcs
   have k:=V.AJ.1 k
   obtain ⟨U,k⟩:=As.1 k
   simp only [Bool.and_eq_true] at U
   obtain ⟨cs',us,g1,g2,g3⟩:=Mb (hT t ty hty) h2 h3 (hy.rep (FI U.1)) U.1 (Nat.eq_of_beq_eq_true U.2) k
   exact eL hK (fin hx g1) (h.K3 hcs h2 g2) g3
  simp_all
 simp_all
theorem Tl {x:Operand} (hK:CA D I0 st0 w0 β env.Bs a o.dst next K) (h:Rel D I0 st0 w0 I β env st a w) (ho:o.op=.nilCheck x)
 (k:match env.eval x with
 | .BO id off=>K (.BO id off) env st
 | .ptr b off=>K (.ptr b off) env st
 | .Gi e off=>K (.Gi e off) env st
 |_=>False):o.wp P a w next Qc:=by
 have hx:=h.f.eval x
 split at k
 .rename_i id off he
  rw [he] at hx
  obtain ⟨b,hb,U⟩:=HW hx
  exact AL hK (c:=a.eval x) (w':=w) (by simp only [execOp,ho,U];rfl) h hx k
 .rename_i b off he
  rw [he] at hx
  have U:=N6 hx
  exact AL hK (c:=a.eval x) (w':=w) (by simp only [execOp,ho,U];rfl) h hx k
 .rename_i e off he
  rw [he] at hx
  obtain ⟨b,o',U,_⟩:=S4 hx
  exact AL hK (c:=a.eval x) (w':=w) (by simp only [execOp,ho,U];rfl) h hx k
 simp_all
theorem Qo {t:TypeId} {x:Operand} {f:Nat} (hT:G4 P T) (hK:CA D I0 st0 w0 β env.Bs a o.dst next K) (h:Rel D I0 st0 w0 I β env st a w) (ho:o.op=.fieldAddr t x f)
 (k:match assoc T t,env.eval x with
 |some (.struct U _),.BO id off=>match U[f]? with|some (o,s)=>DM (Nat.blt 0 s) (K (.BO id (off+o)) env st)|none=>False
 |some (.struct U _),.ptr b off=>match U[f]? with|some (o,s)=>DM (Nat.blt 0 s) (K (.ptr b (off+o)) env st)|none=>False
 |some (.struct U _),.Gi e off=>match U[f]? with|some (o,s)=>DM (Nat.blt 0 s) (K (.Gi e (off+o)) env st)|none=>False
 |_,_=>False):o.wp P a w next Qc:=by
 have hx:=h.f.eval x
 have fin:∀{U:List (Nat×Nat)} {z:List V} {b off o' s:Nat},assoc T t=some (.struct U z)->U[f]? =some (o',s)->0<s->a.eval x=.pointer (some ⟨b,off,none⟩)->
  (execOp a.eval o).run P w=.ok (.value (.pointer (some ⟨b,off+o',none⟩))) w:=by
  intro U z b off o' s ht hf hs e
  obtain ⟨i,fields,zs,h1,h2,h3,h4,h5,h6,h7,_⟩:=hT t _ ht
  obtain ⟨fl,j,g1,g2,g3,g4⟩:=h7 f o' s hf
  have hne:¬j.size=0:=AC
  simp only [execOp,ho,Instr.fieldAt,Sem.run_bind,Az h2,Result.andThen_ok,g1,e,Instr.sureAddr,Sem.run_pure,fieldPlace,Ce g3,Sem.run_ite]
  rw [if_neg hne]
  simp only [Result.andThen_ok,CH,g2]
 split at k
 .rename_i U z id off ht he
  rw [he] at hx
  obtain ⟨b,hb,hx⟩:=HW hx
  split at k
  .rename_i o' s hf
   obtain ⟨hs,k⟩:=As.1 k
   exact AL hK (fin ht hf i7 hx) h (show A2 I β (.BO id (off+o')) _ from ⟨b,hb,rfl⟩) k
  simp_all
 .rename_i U z b off ht he
  rw [he] at hx
  have hx:=N6 hx
  split at k
  .rename_i o' s hf
   obtain ⟨hs,k⟩:=As.1 k
   exact AL hK (fin ht hf i7 hx) h (A2.of H1) k
  simp_all
 .rename_i U z e off ht he
  rw [he] at hx
  obtain ⟨b,o1,hx,hc⟩:=S4 hx
  split at k
  .rename_i o' s hf
   obtain ⟨hs,k⟩:=As.1 k
   exact AL hK (fin ht hf i7 hx) h (A2.of (by simp only [AM];grind)) k
  simp_all
 simp_all
end
section
variable {D:List Deferred} {P:Program} {T:List (Nat×Ty)} {C:FuncId->List V->St->(Au->St->Prop)->Prop} {I0 I:Mem} {st0 st:St} {w0 w:World} {β:Nat->Option Nat} {env:Env} {a:Act}
variable {o:Oper} {K:V->Env->St->Prop} {Q:AG->Env->St->Prop} {next:Act->World->Prop} {Qc:Exit->Act->World->Prop}
theorem cU {op:UnOp} {t:TypeId} {x:Operand} (hK:CA D I0 st0 w0 β env.Bs a o.dst next K) (h:Rel D I0 st0 w0 I β env st a w)
 (k:match op,env.eval x with
 | .not,.bool b=>lit b (K (.bool false) env st) (K (.bool true) env st)
 | .neg,.int k n=>∃r,r=k.wrap (0 - n)/\K (.int k r) env st
 |_,_=>False) (ho:o.op=.unOp op t x):o.wp P a w next Qc:=by
 have U:=h.f.eval x
 split at k
 .rename_i b he
  rw [he] at U
  have U:=Jn U
  refine AL hK (c:=.bool (!b)) (w':=w) (v:=.bool (!b)) (by simp only [execOp,ho,U];rfl) h (A2.of H1) ?_
  cases b<;>exact k
 .rename_i kd n he
  rw [he] at U
  have U:=GP U
  obtain ⟨r,rfl,k⟩:=k
  exact AL hK (c:=.int kd (kd.wrap (0 - n))) (w':=w) (by simp only [execOp,ho,U];rfl) h (A2.of H1) k
 simp_all
theorem Ti {f:FuncId} {first cap:Array Operand} (hK:CA D I0 st0 w0 β env.Bs a o.dst next K) (h:Rel D I0 st0 w0 I β env st a w) (ho:o.op=.makeFunc (.func f) first cap)
 (k:XO env first.toList λx=>XO env cap.toList λc=>K (.func f x c) env st):o.wp P a w next Qc:=by
 obtain ⟨v1,U,k⟩:=Gr h.f k
 obtain ⟨v2,h2,k⟩:=Gr h.f k
 refine AL hK (c:=.func (.func f) (first.map a.eval) (cap.map a.eval)) (w':=w) (by simp only [execOp,ho];rfl) h (A2.of ?_) k
 simp only [AM]
 exact ⟨first.toList.map a.eval,cap.toList.map a.eval,by congr 1<;>(apply Array.ext';simp),U,h2⟩
theorem TZ {x:Operand} {i:Nat} (hK:CA D I0 st0 w0 β env.Bs a o.dst next K) (h:Rel D I0 st0 w0 I β env st a w) (ho:o.op=.extract x i)
 (k:match env.eval x with
 | .Bp vs=>match vs[i]? with|some v=>v.force λv=>K v env st|none=>False
 |_=>False):o.wp P a w next Qc:=by
 have hx:=h.f.eval x
 split at k
 .rename_i vs he
  rw [he] at hx
  have U:AM I (.Bp vs) (a.eval x):=hx
  simp only [AM] at U
  obtain ⟨cs,e,hl⟩:=U
  split at k
  .rename_i v hv
   obtain ⟨c,h1,h2⟩:=Ao.get hl hv
   refine AL hK (c:=c) (w':=w) ?_ h (A2.of h2) (V.AJ.1 k)
   simp only [execOp,ho,e,Instr.extract]
   simp_all
  simp_all
 simp_all
theorem ZK {t:TypeId} {x:Operand} {f:Nat} (hT:G4 P T) (hK:CA D I0 st0 w0 β env.Bs a o.dst next K) (h:Rel D I0 st0 w0 I β env st a w) (ho:o.op=.field t x f)
 (k:match assoc T t,env.eval x with
 |some (.struct U _),.agg cs=>match U[f]? with
  |some (o,1)=>match cs[o]? with|some v=>v.force λv=>K v env st|none=>False
  |_=>False
 |_,_=>False):o.wp P a w next Qc:=by
 have hx:=h.f.eval x
 split at k
 .rename_i U z cs ht he
  rw [he] at hx
  have hx':AM I (.agg cs) (a.eval x):=hx
  simp only [AM] at hx'
  obtain ⟨vs,e,hl⟩:=hx'
  split at k
  .rename_i o' hf
   split at k
   .rename_i v hv
    obtain ⟨c,h1,h2⟩:=Ao.get hl hv
    obtain ⟨i,fields,zs,g1,g2,g3,g4,g5,g6,g7,g8,g9⟩:=hT t _ ht
    obtain ⟨fl,d,q1,q2,q3,q4⟩:=g9 f o' hf
    refine AL hK (c:=c) (w':=w) ?_ h (A2.of h2) (V.AJ.1 k)
    have hc:vs.toArray[o']? =some c:=by simpa using h1
    simp only [execOp,ho,e,Instr.field,Sem.run_bind,Az g2,Result.andThen_ok,q1,asAgg,Sem.run_pure,q2]
    unfold part
    simp only [Sem.run_bind,LF q3,q4,Result.andThen_ok,hc,Bool.false_eq_true,if_false]
    rfl
   simp_all
  simp_all
 simp_all
theorem Qp {t:TypeId} {x i:Operand} (hT:G4 P T) (hK:CA D I0 st0 w0 β env.Bs a o.dst next K) (h:Rel D I0 st0 w0 I β env st a w) (ho:o.op=.indexAddr t x i)
 (k:match assoc T t,env.eval x,env.eval i with
 |some (.slice _ sz' _),.slice sz es _,.int _ n=>DM (Nat.beq sz' sz) (0<=n/\∃e,es[n.toNat]? =some e/\K (.Gi e 0) env st)
 |some (.slice _ sz' _),.FP sz b m _,.int _ n=>DM (Nat.beq sz' sz) ((0<=n/\n<(m:Int))/\∀k,k=n.toNat*sz->K (.ptr b k) env st)
 |some (.arr offs _),.BO id off,.int _ n=>(match n with
  | .ofNat m=>(match offs[m]? with|some (o,_)=>K (.BO id (off+o)) env st|none=>False)
  | .negSucc _=>False)
 |_,_,_=>False):o.wp P a w next Qc:=by
 have hx:=h.f.eval x
 have hi:=h.f.eval i
 split at k
 .rename_i el sz' by' sz es own kd n ht hex hei
  rw [hex] at hx
  rw [hei] at hi
  have hi:=GP hi
  obtain ⟨hsz,h0,e,he,k1⟩:=As.1 k
  clear k
  have hsz:=Nat.eq_of_beq_eq_true hsz
  subst hsz
  obtain ⟨ad,cap,e1,e2,e3,e4,e5,e6⟩:=Gy hx
  obtain ⟨i0,j,c,h1,h2,h3,h4,h5,h6,h7,h8,_⟩:=hT t _ ht
  have hlt:n.toNat<es.length:=by
   rcases Nat.lt_or_ge n.toNat es.length with h|h
   .exact h
   .simp_all
  cases ad with
  |none=>omega
  |some ad=>
   obtain ⟨b,off,spot⟩:=ad
   simp only at e6
   obtain ⟨e0,e6⟩:=e6
   obtain rfl:spot=none:=e0.resolve_left AC
   obtain ⟨g1,g2⟩:=Cq.get e6 he
   refine AL hK (c:=.pointer (some ⟨b,off+n.toNat*sz',none⟩)) (w':=w) (v:=.Gi e 0) ?_ h (A2.of (by simp only [AM];grind)) k1
   have U:(0<=n/\n<(es.length:Int)):=⟨h0,AC⟩
   simp only [execOp,ho,Instr.indexAt,hi,e1,asIntOf,Sem.run_bind,Sem.run_pure,Result.andThen_ok,Az h2]
   rw [if_pos U]
   simp only [Sem.run_bind,Ce h5,h6,Result.andThen_ok,Sem.run_pure,CH]
 .rename_i el sz' by' sz b m cap kd n ht hex hei
  rw [hex] at hx
  rw [hei] at hi
  have hi:=GP hi
  obtain ⟨hsz,U,k1⟩:=As.1 k
  clear k
  have hsz:=Nat.eq_of_beq_eq_true hsz
  subst hsz
  obtain ⟨e1,e2,e3,e4⟩:=N5 hx
  obtain ⟨i0,j,c,h1,h2,h3,h4,h5,h6,h7,h8,_⟩:=hT t _ ht
  refine AL hK (c:=.pointer (some ⟨b,n.toNat*sz',none⟩)) (w':=w) (v:=.ptr b (n.toNat*sz')) ?_ h (A2.of H1) (k1 _ rfl)
  simp only [execOp,ho,Instr.indexAt,hi,e1,asIntOf,Sem.run_bind,Sem.run_pure,Result.andThen_ok,Az h2]
  rw [if_pos U]
  simp only [Sem.run_bind,Ce h5,h6,Result.andThen_ok,Sem.run_pure,CH,Nat.zero_add]
 .rename_i offs z id off kd n ht hex hei
  rw [hex] at hx
  rw [hei] at hi
  replace hi:=GP hi
  obtain ⟨b,hb,hx⟩:=HW hx
  split at k
  .rename_i m
   split at k
   .rename_i p f s hf
    obtain ⟨i0,len,e,j,zs,h1,h2,h3,h4,h5,h6,h7⟩:=hT t _ ht
    obtain ⟨q1,_,q3⟩:=h7 m f s hf
    subst q1
    refine AL hK (c:=.pointer (some ⟨b,off+m*j.size,none⟩)) (w':=w) ?_ h (show A2 I β (.BO id (off+m*j.size)) _ from ⟨b,hb,rfl⟩) k
    have U:(0<=(m:Int)/\(m:Int)<(len:Int)):=⟨AC,AC⟩
    simp only [execOp,ho,Instr.indexAt,hi,hx,asIntOf,Sem.run_bind,Sem.run_pure,Result.andThen_ok,Az h2,Instr.sureAddr,Int.ofNat_eq_natCast]
    rw [if_pos U]
    simp only [Sem.run_bind,Ce h6,Result.andThen_ok,Sem.run_pure,CH,Int.toNat_natCast]
   .exact k.elim
  .exact k.elim
 simp_all
theorem ZL {t:TypeId} {x i:Operand} (hT:G4 P T) (hK:CA D I0 st0 w0 β env.Bs a o.dst next K) (h:Rel D I0 st0 w0 I β env st a w) (ho:o.op=.index t x i)
 (k:match assoc T t,env.eval x,env.eval i with
 |some (.sc (.str _)),.str s,.int _ n=>0<=n/\∃e,s[n.toNat]? =some e/\K (.int .u8 e.toNat) env st
 |_,_,_=>False):o.wp P a w next Qc:=by
 have hx:=h.f.eval x
 have hi:=h.f.eval i
 split at k
 .rename_i z s kd n ht hex hei
  rw [hex] at hx
  rw [hei] at hi
  have hi:=GP hi
  obtain ⟨hx,hlen⟩:=Xf hx
  obtain ⟨h0,e,he,k⟩:=k
  obtain ⟨i0,d,c,h1,h2,h3,h4,h5,h6,h7,h8,h9,U⟩:=hT t _ ht
  simp only at U
  subst U
  refine AL hK (c:=.int .u8 e.toNat) (w':=w) (v:=.int .u8 e.toNat) ?_ h (A2.of H1) k
  have hg:(⟨s.toArray⟩:ByteArray)[n.toNat]? =some e:=by
   have hlt:n.toNat<s.length:=by
    rcases Nat.lt_or_ge n.toNat s.length with h|h
    .exact h
    .simp_all
   rw [getElem?_pos (⟨s.toArray⟩:ByteArray) n.toNat (by show n.toNat<s.toArray.size;omega)]
   show some (s.toArray[n.toNat])=some e
   rw [List.getElem?_eq_getElem hlt] at he
   simpa using he
  simp only [execOp,ho,Instr.index,hi,hx,asIntOf,Sem.run_bind,Sem.run_pure,Result.andThen_ok,Az h2]
  simp_all
 simp_all
theorem Jp {n:Int} {y:Nat} {kd:IntKind} {code:BoundsCode} (h:0<=n/\n<=(y:Int)):(Instr.sliceBound (.int kd n) y code).run P w=.ok n.toNat w:=by
 simp only [Instr.sliceBound,asIntOf,Sem.run_bind,Sem.run_pure,Result.andThen_ok]
 simp_all
theorem Ox {len cap:Nat} {lo hi:Option Operand} {kl kh:IntKind} {l h:Int} (hF:Rel D I0 st0 w0 I β env st a w) (isS:Bool)
 (U:(lo.map env.eval).getD (.int .i64 0)=.int kl l) (hh:(hi.map env.eval).getD (.int .i64 len)=.int kh h)
 (h0:0<=l) (h1:l<=h) (h2:h<=(len:Int)) (h3:len<=cap):
 (Instr.sliceBounds isS len cap (lo.map a.eval) (hi.map a.eval) none).run P w=.ok (l.toNat,h.toNat,cap) w:=by
 have hhi:∀x,hi=some x->a.eval x=.int kh h:=λx e=>by
  subst e
  simp only [Option.map_some,Option.getD_some] at hh
  have:=hF.f.eval x
  rw [hh] at this
  exact GP this
 have hlo:∀x,lo=some x->a.eval x=.int kl l:=λx e=>by
  subst e
  simp only [Option.map_some,Option.getD_some] at U
  have:=hF.f.eval x
  rw [U] at this
  exact GP this
 have b1:∀code:BoundsCode,(Instr.sliceBound (.int kh h) cap code).run P w=.ok h.toNat w:=λcode=>Jp ⟨AC,AC⟩
 have b2:∀code:BoundsCode,(Instr.sliceBound (.int kl l) h.toNat code).run P w=.ok l.toNat w:=λcode=>Jp ⟨AC,AC⟩
 cases hi with
 |none=>
  simp only [Option.map_none,Option.getD_none,V.int.injEq] at hh
  obtain ⟨_,rfl⟩:=hh
  simp only [Int.toNat_natCast] at b2 |-
  cases lo with
  |none=>
   simp only [Option.map_none,Option.getD_none,V.int.injEq] at U
   obtain ⟨_,rfl⟩:=U
   rfl
  |some x=>
   simp only [Instr.sliceBounds,Option.map_some,Option.map_none,hlo x rfl,Sem.run_bind,Sem.run_pure,Result.andThen_ok,b2]
 |some y=>
  cases lo with
  |none=>
   simp only [Option.map_none,Option.getD_none,V.int.injEq] at U
   obtain ⟨_,rfl⟩:=U
   simp only [Instr.sliceBounds,Option.map_some,Option.map_none,hhi y rfl,Sem.run_bind,Sem.run_pure,Result.andThen_ok,b1]
   rfl
  |some x=>
   simp only [Instr.sliceBounds,Option.map_some,hhi y rfl,hlo x rfl,Sem.run_bind,Sem.run_pure,Result.andThen_ok,b1,b2]
theorem ZO {t:TypeId} {x:Operand} {lo hi:Option Operand} (hT:G4 P T) (hK:CA D I0 st0 w0 β env.Bs a o.dst next K) (h:Rel D I0 st0 w0 I β env st a w) (ho:o.op=.slice t x lo hi none)
 (k:match assoc T t,env.eval x with
 |some (.slice _ sz' _),.slice sz es _=>
  match (lo.map env.eval).getD (.int .i64 0),(hi.map env.eval).getD (.int .i64 es.length) with
  | .int _ l,.int _ h=>DM (Nat.beq sz' sz) ((0<=l/\l<=h/\h<=es.length)/\∀es',es'=(es.take h.toNat).drop l.toNat->K (.slice sz es' .any) env st)
  |_,_=>False
 |some (.sc (.str _)),.str s=>
  match (lo.map env.eval).getD (.int .i64 0),(hi.map env.eval).getD (.int .i64 s.length) with
  | .int _ l,.int _ h=>(0<=l/\l<=h/\h<=s.length)/\∀s',s'=(s.take h.toNat).drop l.toNat->K (.str s') env st
  |_,_=>False
 |some (.slice _ sz' _),.FP sz b n cap=>
  match (lo.map env.eval).getD (.int .i64 0),(hi.map env.eval).getD (.int .i64 n) with
  | .int _ l,.int _ h=>DM (Nat.beq sz' sz) ((l=0/\0<=h/\h<=n)/\∀k,k=h.toNat->K (.FP sz b k cap) env st)
  |_,_=>False
 |_,_=>False):o.wp P a w next Qc:=by
 have hx:=h.f.eval x
 split at k
 .rename_i el sz' by' sz es own ht hex
  rw [hex] at hx
  split at k
  .rename_i kl l kh hh hel heh
   obtain ⟨U,⟨h0,h1,h2⟩,k1⟩:=As.1 k
   clear k
   have k1:=k1 _ rfl
   have U:=Nat.eq_of_beq_eq_true U
   subst U
   obtain ⟨ad,cap,e1,e2,e3,e4,e5,e6⟩:=Gy hx
   obtain ⟨i0,j,c,g1,g2,g3,g4,g5,g6,g7,g8,_⟩:=hT t _ ht
   have hb:=Ox (P:=P) (cap:=cap) h true hel heh h0 h1 h2 e2
   have hlen:((es.take hh.toNat).drop l.toNat).length=hh.toNat - l.toNat:=UV
   refine AL hK (c:=.slice (if cap=l.toNat then ad else ad.map (·.add (l.toNat*sz'))) (hh.toNat - l.toNat) (cap - l.toNat)) (w':=w) ?_ h (A2.of ?_) k1
   .have hu:(underlying t).run P w=.ok (.slice el) w:=Az g2
    simp only [execOp,ho,Instr.sliceAt,Option.map_none,Sem.run_bind,hu,Result.andThen_ok,Instr.slice,e1,hb,Ce g5,g6,Sem.run_pure]
   .simp only [AM]
    refine ⟨_,cap - l.toNat,by rw [hlen],AC,AC,e4,trivial,?_⟩
    cases ad with
    |none=>grind
    |some ad=>
     simp only at e6
     obtain ⟨s1,s2⟩:=e6
     split
     .grind
     .rename_i ad' hc
      split at hc
      .rename_i hcap
       injection hc with hc
       subst hc
       refine ⟨.inl AC,?_⟩
       have:(es.take hh.toNat).drop l.toNat=[]:=List.eq_nil_of_length_eq_zero AC
       rw [this];simp only [Cq]
      .simp only [Option.map_some,Option.some.injEq] at hc
       subst hc
       rename_i hne
       obtain ⟨b,off,spot⟩:=ad
       obtain rfl:spot=none:=s1.resolve_left AC
       rw [CH]
       exact ⟨.inr rfl,Cq.drop _ (Cq.take _ s2)⟩
  simp_all
 .rename_i z s ht hex
  rw [hex] at hx
  obtain ⟨hx,hlim⟩:=Xf hx
  split at k
  .rename_i kl l kh hh hel heh
   obtain ⟨⟨h0,h1,h2⟩,k⟩:=k
   have k:=k _ rfl
   obtain ⟨i0,d,c,g1,g2,g3,g4,g5,g6,g7,g8,g9,g10⟩:=hT t _ ht
   simp only at g10
   subst g10
   have hb:=Ox (P:=P) (cap:=s.length) h false hel heh h0 h1 h2 (Nat.le_refl _)
   refine AL hK (c:=.string ⟨((s.take hh.toNat).drop l.toNat).toArray⟩) (w':=w) ?_ h (A2.of (by simp only [AM];grind)) k
   have hu:(underlying t).run P w=.ok .string w:=Az g2
   have hs:(⟨s.toArray⟩:ByteArray).size=s.length:=by show s.toArray.size=_;simp
   simp only [execOp,ho,Instr.sliceAt,Option.map_none,Sem.run_bind,hu,Result.andThen_ok,Instr.slice,hx,Option.isSome_none,Bool.false_eq_true,if_false,Sem.run_pure,hs,hb]
   congr 3
   apply ByteArray.ext
   apply Array.ext'
   simp [ByteArray.data_extract,List.drop_take]
  simp_all
 .rename_i el sz' by' sz b n cap ht hex
  rw [hex] at hx
  split at k
  .rename_i kl l kh hh hel heh
   obtain ⟨U,⟨h0,h1,h2⟩,k1⟩:=As.1 k
   clear k
   have k1:=k1 _ rfl
   have U:=Nat.eq_of_beq_eq_true U
   subst U
   obtain ⟨e1,e2,e3,e4⟩:=N5 hx
   obtain ⟨i0,j,c,g1,g2,g3,g4,g5,g6,g7,g8,_⟩:=hT t _ ht
   have hb:=Ox (P:=P) (cap:=cap) h true hel heh AC AC h2 e2
   subst h0
   refine AL hK (c:=.slice (some ⟨b,0,none⟩) hh.toNat cap) (w':=w) ?_ h (A2.of ?_) k1
   .have hu:(underlying t).run P w=.ok (.slice el) w:=Az g2
    simp only [execOp,ho,Instr.sliceAt,Option.map_none,Sem.run_bind,hu,Result.andThen_ok,Instr.slice,e1,hb,Ce g5,g6,Sem.run_pure]
    have ha:(⟨b,0,none⟩:Addr).add 0=⟨b,0,none⟩:=by rw [CH]
    simp_all
   .simp only [AM]
    grind
  simp_all
 simp_all
end
section
variable {D:List Deferred} {P:Program} {T:List (Nat×Ty)} {C:FuncId->List V->St->(Au->St->Prop)->Prop} {I0 I:Mem} {st0 st:St} {w0 w:World} {β:Nat->Option Nat} {env:Env} {a:Act}
variable {o:Oper} {K:V->Env->St->Prop} {Q:AG->Env->St->Prop} {next:Act->World->Prop} {Qc:Exit->Act->World->Prop}
theorem ON:∀(vs:List Value) (k off:Nat) (cs:Array Value),off+k+vs.length<=cs.size->
 ((vs.zipIdx k).foldl (λcs (p:Value×Nat)=>cs.setIfInBounds (off+p.2) p.1) cs).toList=cs.toList.take (off+k)++vs++cs.toList.drop (off+k+vs.length)
 |[],k,off,cs,h=>by simp
 |v::vs,k,off,cs,h=>by
  simp only [List.length_cons] at h
  rw [List.zipIdx_cons,List.foldl_cons,ON vs (k+1) off _ (by grind)]
  have U:off+k<cs.toList.length:=UV
  simp only [Array.toList_setIfInBounds,List.length_cons]
  rw [show off+(k+1)=off+k+1 by omega,List.take_set,List.drop_set_of_lt AC]
  rw [show off+k+1+vs.length=off+k+(vs.length+1) by omega]
  rw [List.take_succ_eq_append_getElem U,List.set_append_right _ _ (by grind)]
  have hm:min (off+k) cs.size=off+k:=AC
  simp [hm]
theorem Ms {offs:List (Nat×Nat)} {place:Nat->Option (Nat×Nat)} (hp:∀(n o s:Nat),offs[n]? =some (o,s)->place n=some (o,s)):
 ∀{ps:List (Nat×V)} {U:List (Nat×Value)} {cs:List V} {vs:List Value} {K:List V->Prop},Ao I cs vs->
  U.map (·.1)=ps.map (·.1)->Ao I (ps.map (·.2)) (U.map (·.2))->(∀p ∈ ps,p.2.known=true)->Nr offs cs ps K->
  ∃cs' us,Instr.fill place vs.toArray U=some us.toArray/\Ao I cs' us/\K cs'/\us.length=vs.length
 |[],U,cs,vs,K,hk,h1,h2,h3,k=>by
  have:U=[]:=by simpa using h1
  subst this
  exact ⟨cs,vs,rfl,hk,A9.1 k,rfl⟩
 |(i,v)::ps,[],cs,vs,K,hk,h1,h2,h3,k=>by grind
 |(i,v)::ps,(j,c)::U,cs,vs,K,hk,h1,h2,h3,k=>by
  simp only [List.map_cons,List.cons.injEq] at h1
  obtain ⟨rfl,h1⟩:=h1
  simp only [List.map_cons,Ao] at h2
  obtain ⟨c',s,e,h4,h5⟩:=h2
  injection e with e1 e2
  subst e1;subst e2
  rw [R4] at k
  split at k
  .rename_i off size ho
   obtain ⟨g1,k⟩:=As.1 k
   obtain ⟨g2,k⟩:=As.1 k
   have g1:=Nat.eq_of_beq_eq_true g1
   have g2:=Nat.le_of_ble_eq_true g2
   have hkn:=h3 (j,v) List.mem_cons_self
   have hc:=ES h4 hkn
   have hlc:v.cells.length=c.cells.size:=by rw [Ao.length hc,Array.length_toList]
   have hlv:=Ao.length hk
   have hf:=ON c.cells.toList 0 off vs.toArray (by grind)
   have hfa:c.cells.zipIdx.foldl (λcs (p:Value×Nat)=>cs.setIfInBounds (off+p.2) p.1) vs.toArray=(vs.take off++c.cells.toList++vs.drop (off+size)).toArray:=by
    apply Array.ext'
    rw [<-Array.foldl_toList,Array.toList_zipIdx,hf]
    simp [<-hlc,g1]
   have hR:Ao I (cs.take off++v.cells++cs.drop (off+size)) (vs.take off++c.cells.toList++vs.drop (off+size)):=
    Ao.append (Ao.append (Ao.take _ hk) hc) (Ao.drop _ hk)
   obtain ⟨cs',us,q1,q2,q3,q4⟩:=Ms hp hR h1 h5 (λp hp'=>h3 p (List.mem_cons_of_mem _ hp')) k
   refine ⟨cs',us,?_,q2,q3,?_⟩
   .simp only [Instr.fill,hp j off size ho]
    simp_all
   grind
  simp_all
theorem IC {B:Nat} (h:Iw D B I β env st a w):∀{l:List (Nat×Operand)} {K:List (Nat×V)->Prop},Hl env l K->
 ∃ps,(l.map λp=>(p.1,a.eval p.2)).map (·.1)=ps.map (·.1)/\Ao I (ps.map (·.2)) ((l.map λp=>(p.1,a.eval p.2)).map (·.2))/\(∀p ∈ ps,p.2.known=true)/\K ps
 |[],K,k=>⟨[],rfl,H1,λp U=>(by cases U),k⟩
 |(i,x)::r,K,k=>by
  rw [Nn,V.AJ] at k
  obtain ⟨U,k⟩:=As.1 k
  obtain ⟨ps,h1,h2,h3,h4⟩:=IC h k
  refine ⟨(i,env.eval x)::ps,i7,?_,λp hp'=>?_,h4⟩
  .simp only [List.map_cons,Ao]
   exact ⟨_,_,rfl,(h.eval x).rep (FI U),h2⟩
  grind
theorem ZJ {t:TypeId} {parts:Array (Nat×Operand)} (hT:G4 P T) (hK:CA D I0 st0 w0 β env.Bs a o.dst next K) (h:Rel D I0 st0 w0 I β env st a w) (ho:o.op=.build t parts)
 (k:match assoc T t with
 |some (.struct U z)=>Hl env parts.toList λps=>Nr U z ps λcs=>K (.agg cs) env st
 |some (.arr U z)=>Hl env parts.toList λps=>Nr U z ps λcs=>K (.agg cs) env st
 |_=>False):o.wp P a w next Qc:=by
 split at k
 .rename_i U z ht
  obtain ⟨i,fields,zs,h1,h2,h3,h4,h5,h6,h7,_⟩:=hT t _ ht
  obtain ⟨ps,g1,g2,g3,k⟩:=IC h.f k
  have hm:(fields.mapM λf=>do pure (f.offset,<-sizeOf f.type):Sem (Array (Nat×Nat))).run P w=.ok U.toArray w:=by
   have key:∀(fs:List Field) (os:List (Nat×Nat)),fs.length=os.length->(∀(n o s:Nat),os[n]? =some (o,s)->∃(f:Field) (j:TypeInfo),fs[n]? =some f/\f.offset=o/\P.info? f.type=some j/\j.size=s)->
    (fs.mapM λf=>do pure (f.offset,<-sizeOf f.type):Sem (List (Nat×Nat))).run P w=.ok os w:=by
    intro fs
    induction fs with
    |nil=>intro os hl _;cases os with
     |nil=>rfl
     |cons x y=>grind
    |cons f fs ih=>
     intro os hl hq
     cases os with
     |nil=>grind
     |cons p os=>
      obtain ⟨po,psz⟩:=p
      obtain ⟨f',j,q1,q2,q3,q4⟩:=hq 0 po psz GT
      simp at q1
      subst q1
      have:=ih os i7 (λn o s e=>hq (n+1) o s i7)
      simp only [List.mapM_cons,Sem.run_bind,Ce q3,Result.andThen_ok,Sem.run_pure,this,q2,q4]
   have:=key fields.toList U AC (λn o s e=>by simp_all)
   rw [Array.mapM_eq_mapM_toList,Sem.run_map,this]
   rfl
  obtain ⟨cs',us,q1,q2,q3,q4⟩:=Ms (place:=λn=>U.toArray[n]?) (λn o s e=>by simp_all) (Ao.mono (Mem.empty_le I) _ _ h5) g1 g2 g3 k
  refine AL hK (c:=.agg us.toArray) (w':=w) (v:=.agg cs') ?_ h (A2.of (by simp only [AM];simp_all)) q3
  have hpl:(parts.map λ(i,x)=>(i,a.eval x)).toList=parts.toList.map λp=>(p.1,a.eval p.2):=GT
  simp only [execOp,ho,Instr.build,Sem.run_bind,EB h1 h4,Value.cells,Result.andThen_ok,Az h2,hm,hpl,q1,Sem.run_pure]
 .rename_i U z ht
  obtain ⟨i,n,e,j,zs,h1,h2,h3,h4,h5,h6,h7⟩:=hT t _ ht
  obtain ⟨ps,g1,g2,g3,k⟩:=IC h.f k
  obtain ⟨cs',us,q1,q2,q3,q4⟩:=Ms (place:=λn=>some (n*j.size,j.size)) (λn o s e=>by grind) (Ao.mono (Mem.empty_le I) _ _ h5) g1 g2 g3 k
  refine AL hK (c:=.agg us.toArray) (w':=w) (v:=.agg cs') ?_ h (A2.of (by simp only [AM];simp_all)) q3
  have hpl:(parts.map λ(i,x)=>(i,a.eval x)).toList=parts.toList.map λp=>(p.1,a.eval p.2):=GT
  simp only [execOp,ho,Instr.build,Sem.run_bind,EB h1 h4,Value.cells,Result.andThen_ok,Az h2,Ce h6,hpl,q1,Sem.run_pure]
 simp_all
theorem J2 {sz:Nat}:∀{l:List (List V)} {b o:Nat},Cv I st w->Cq I sz b o l->∃vs,Cc I sz l vs/\∀j v,vs[j]? =some v->w.cell? ⟨b,o+j,none⟩=some v
 |[],b,o,U,k=>⟨[],H1,λj v e=>by simp at e⟩
 |u::r,b,o,U,k=>by
  simp only [Cq] at k
  obtain ⟨⟨h0,h1⟩,k2⟩:=k
  obtain ⟨us,h2,h3⟩:=MI U h1
  obtain ⟨vs,h4,h5⟩:=J2 U k2
  have hl:us.length=sz:=by rw [<-Ao.length h2,h0]
  refine ⟨us++vs,by simp only [Cc];grind,λj v e=>?_⟩
  grind
theorem Cc.append {sz:Nat}:∀{l r:List (List V)} {vs us:List Value},Cc I sz l vs->Cc I sz r us->Cc I sz (l++r) (vs++us)
 |[],r,vs,us,k,h=>by simp only [Cc] at k;simp_all
 |v::l,r,vs,us,k,h=>by
  simp only [Cc] at k
  obtain ⟨u1,s,e,k1,U,k3⟩:=k
  subst e
  simp only [List.cons_append,Cc]
  exact ⟨u1,s++us,GT,k1,U,Cc.append k3 h⟩
theorem Cc.wk {sz:Nat}:∀{l:List (List V)} {vs:List Value},Cc I sz l vs->Cc I sz (l.map (·.map V.JB)) vs
 |[],vs,k=>by simp_all
 |v::l,vs,k=>by
  simp only [Cc] at k
  obtain ⟨u1,s,e,k1,U,k3⟩:=k
  simp only [List.map_cons,Cc]
  exact ⟨u1,s,e,i7,Ao.map (λ_ _=>AM.JB) U,Cc.wk k3⟩
theorem Cc.sc {sz:Nat}:∀{l:List (List V)} {vs:List Value},Cc I sz l vs->(l.all λv=>v.all V.sc)=true->∀c ∈ vs,c.oneCell'=true
 |[],vs,k,h,c,U=>by simp only [Cc] at k;simp_all
 |v::l,vs,k,h,c,U=>by
  simp only [Cc] at k
  obtain ⟨u1,s,e,k1,k2,k3⟩:=k
  subst e
  simp only [List.all_cons,Bool.and_eq_true] at h
  rcases List.mem_append.1 U with U|U
  .exact cM k2 h.1 c U
  .exact Cc.sc k3 h.2 c U
theorem Cc.mono {J:Mem} {sz:Nat} (h:I.le J):∀{l:List (List V)} {vs:List Value},Cc I sz l vs->Cc J sz l vs
 |[],vs,k=>by simpa only [Cc] using k
 |v::l,vs,k=>by
  simp only [Cc] at k |-
  obtain ⟨u1,s,e,k1,U,k3⟩:=k
  exact ⟨u1,s,e,k1,Ao.mono h _ _ U,Cc.mono h k3⟩
theorem ff {sz:Nat}:∀{vs:List V} {cs:List Value},Ao I vs cs->(vs.all λv=>v.known&&Nat.beq v.cells.length sz)=true->
 Cc I sz (vs.map λv=>v.cells.map V.JB) (cs.flatMap λc=>c.cells.toList)/\∀c ∈ cs,c.cells.size=sz
 |[],cs,k,h=>by simp only [Ao] at k;subst k;exact ⟨H1,λc hc=>by cases hc⟩
 |v::r,cs,k,h=>by
  simp only [Ao] at k
  obtain ⟨c,s,e,k1,k2⟩:=k
  subst e
  simp only [List.all_cons,Bool.and_eq_true] at h
  obtain ⟨⟨h1,h2⟩,h3⟩:=h
  have h2:=Nat.eq_of_beq_eq_true h2
  obtain ⟨g1,g2⟩:=ff k2 h3
  have hc:=ES k1 h1
  refine ⟨?_,λc' U=>?_⟩
  .simp only [List.map_cons,List.flatMap_cons,Cc]
   exact ⟨_,_,rfl,i7,Ao.map (λ_ _=>AM.JB) hc,g1⟩
  .rcases List.mem_cons.1 U with rfl|U
   .rw [<-h2,Ao.length hc,Array.length_toList]
   simp_all
theorem Yt {size:Nat}:∀(U:List (Nat×Value)) (n:Nat) (pre rest:List Value),pre.length=n*size->rest.length=U.length*size->
 (∀j p,U[j]? =some p->p.1=n+j)->(∀p ∈ U,p.2.cells.size=size)->
 Instr.fill (λi=>some (i*size,size)) (pre++rest).toArray U=some (pre++U.flatMap λp=>p.2.cells.toList).toArray
 |[],n,pre,rest,h1,h2,h3,h4=>by
  have:rest=[]:=List.eq_nil_of_length_eq_zero i7
  subst this
  rfl
 |(i,c)::U,n,pre,rest,h1,h2,h3,h4=>by
  have hi:i=n:=by simpa using h3 0 (i,c) GT
  subst hi
  have hc:c.cells.size=size:=h4 (i,c) List.mem_cons_self
  have hr:rest.length=U.length*size+size:=by rw [h2,List.length_cons,Nat.add_mul];omega
  have hf:=ON c.cells.toList 0 (i*size) (pre++rest).toArray (by grind)
  have hfa:c.cells.zipIdx.foldl (λcs (p:Value×Nat)=>cs.setIfInBounds (i*size+p.2) p.1) (pre++rest).toArray=((pre++c.cells.toList)++rest.drop size).toArray:=by
   apply Array.ext'
   rw [<-Array.foldl_toList,Array.toList_zipIdx,hf]
   simp only [Nat.add_zero,Array.length_toList,hc,<-h1]
   rw [List.take_left]
   simp [List.append_assoc,List.drop_append]
  have hlt:¬((pre++rest).toArray.size<i*size+c.cells.size):=UV
  simp only [Instr.fill,hc,ne_eq,not_true_eq_false,decide_false,Bool.false_or,gt_iff_lt,decide_eq_true_eq]
  rw [hc] at hlt
  rw [if_neg hlt,hfa,Yt U (i+1) (pre++c.cells.toList) (rest.drop size) (by grind) (by grind)
   (λj p e=>by have:=h3 (j+1) p i7;omega) (λp hp=>h4 p (List.mem_cons_of_mem _ hp))]
  simp
theorem Td:∀{l:List (Nat×Operand)} {n:Nat},Ob n l=true->∀(j:Nat) (p:Nat×Operand),l[j]? =some p->p.1=n+j
 |[],n,h,j,p,e=>by simp at e
 |(i,x)::r,n,h,j,p,e=>by
  simp only [Ob,Bool.and_eq_true] at h
  have U:=Nat.eq_of_beq_eq_true h.1
  cases j with
  |zero=>grind
  |succ j=>
   have:=Td h.2 j p i7
   omega
theorem Rel.SP {sz cap:Nat} {es:List (List V)} {vs rest:List Value} {ty:TypeId} (h:Rel D I0 st0 w0 I β env st a w) (hr:Cc I sz es vs) (hsz:0<sz) (U:es.length<DG)
 (hcap:vs.length+rest.length=cap*sz) (hle:es.length<=cap):
 Rel D I0 st0 w0 (I.add w.heap.size 0 vs (vs.length+rest.length)) β env (st.BZ w.heap.size (es.length*sz)) a (w.alloc (.cells (vs++rest).toArray ty))/\
 AM (I.add w.heap.size 0 vs (vs.length+rest.length)) (.slice sz es (.tok w.heap.size)) (.slice (some ⟨w.heap.size,0,none⟩) es.length cap):=by
 have hl:=Cc.length hr
 refine ⟨by rw [<-hl];exact h.newRow vs rest ty,?_⟩
 simp only [AM]
 refine ⟨some ⟨w.heap.size,0,none⟩,cap,rfl,hle,U,hsz,⟨rfl,?_⟩,.inr rfl,?_⟩
 .show (if w.heap.size=w.heap.size then some (vs.length+rest.length) else _)=_
  simp_all
 .exact Cq.add es vs 0 hr (Mem.SC (λo _=>Kz h.s o) (.inl (LH h.s))) λj c e=>Mem.Mi e
theorem AM.own {sz:Nat} {es:List (List V)} {own U:AE} {c:Value} (h:AM I (.slice sz es own) c) (k:U=.any\/(U=.full/\∃ad,c=.slice ad es.length es.length)):AM I (.slice sz es U) c:=by
 simp only [AM] at h |-
 obtain ⟨ad,cap,e,h1,h2,h3,h4,h5⟩:=h
 refine ⟨ad,cap,e,h1,h2,h3,?_,h5⟩
 rcases k with rfl|⟨rfl,ad',e'⟩
 .trivial
 .rw [e] at e';injection e' with _ _ e'
theorem Pa {t:TypeId} {len:Nat} {parts:Array (Nat×Operand)} (hT:G4 P T) (hK:CA D I0 st0 w0 β env.Bs a o.dst next K) (h:Rel D I0 st0 w0 I β env st a w) (ho:o.op=.buildSlice t len parts)
 (k:match assoc T t with
 |some (.slice _ sz _)=>DM (Ob 0 parts.toList) (DM (Nat.beq len parts.toList.length) (DM (Nat.ble (len*sz) 16777216)
  (XO env (parts.toList.map (·.2)) λvs=>DM (vs.all λv=>v.known&&Nat.beq v.cells.length sz) (Nx (vs.map λv=>v.cells.map V.JB) λes=>K (.slice sz es .full) env st))))
 |_=>False):o.wp P a w next Qc:=by
 split at k
 .rename_i el sz by' ht
  obtain ⟨h1,k⟩:=As.1 k
  obtain ⟨h2,k⟩:=As.1 k
  obtain ⟨h3,k⟩:=As.1 k
  obtain ⟨vs,h4,k⟩:=Gr h.f k
  obtain ⟨h5,k⟩:=As.1 k
  have k:=Ih.1 k
  have h2:=Nat.eq_of_beq_eq_true h2
  have h3:=Nat.le_of_ble_eq_true h3
  obtain ⟨i0,j,c,g1,g2,g3,g4,g5,g6,g7,g8,g9,g10⟩:=hT t _ ht
  obtain ⟨q1,q2⟩:=ff h4 h5
  have hlv:=Ao.length h4
  simp only [List.length_map] at hlv
  have hmul:len<=len*sz:=Nat.le_mul_of_pos_right _ g8
  have hlen:(vs.map λv=>v.cells.map V.JB).length=len:=by simp [hlv,h2]
  have hR:=Cc.length q1
  rw [hlen] at hR
  obtain ⟨r1,r2⟩:=h.SP (rest:=[]) (ty:=el) (cap:=len) q1 g8 (by rw [hlen];simp only [DG];omega) AC AC
  rw [hlen] at r1 r2
  have hfr:=DF h.s
  have r1':=r1.Hs (st':=st) (St.Fk (St.le_refl st) hfr.2 _)
  refine AL hK (c:=.slice (some ⟨w.heap.size,0,none⟩) len len) ?_ r1' (A2.of (AM.own r2 (.inr ⟨rfl,_,by rw [hlen]⟩))) k
  have hp:(parts.map λ(i,x)=>(i,a.eval x)).toList=parts.toList.map λp=>(p.1,a.eval p.2):=GT
  have hz:∀z:Array Value,((Array.range (len*sz)).map λx=>z[x % z.size]!).toList.length=parts.toList.length*sz:=λz=>by simp [h2]
  have U:∀z:Array Value,Instr.fill (λi=>some (i*sz,sz)) ((Array.range (len*sz)).map λx=>z[x % z.size]!) (parts.toList.map λp=>(p.1,a.eval p.2))=
   some (((parts.toList.map (·.2)).map a.eval).flatMap λc=>c.cells.toList).toArray:=λz=>by
   have:=Yt (size:=sz) (parts.toList.map λp=>(p.1,a.eval p.2)) 0 [] ((Array.range (len*sz)).map λx=>z[x % z.size]!).toList GT i7
    (λj p e=>by
      rw [List.getElem?_map] at e
      cases hq:parts.toList[j]? with
      |none=>simp_all
      |some p'=>
       rw [hq] at e
       simp only [Option.map_some,Option.some.injEq] at e
       subst e
       exact Td h1 j p' hq)
    (λp hp=>by grind)
   simp only [List.nil_append,Array.toArray_toList] at this
   rw [this]
   congr 2
   simp [List.flatMap_map]
  have hbig:¬(len*sz>2 ^ 24):=AC
  simp only [execOp,ho,Instr.buildSlice,Sem.run_bind,Az g2,Result.andThen_ok,Ce g5,g6,hp]
  rw [if_neg hbig]
  simp only [Sem.run_bind,Sem.run_pure,Result.andThen_ok,U,newRow,run_newObj,World.alloc_eq,List.append_nil]
  by_cases h0:len*sz=0
  .simp_all
  .rw [if_neg h0]
   simp only [Sem.run_bind,Sem.run_pure,Result.andThen_ok,EB g5 g9,run_newObj,World.alloc_eq]
 simp_all
theorem Jo {t ty e:TypeId} {i:TypeInfo} (ht:P.underlying t=some (.slice e)) (hi:P.info? e=some i)
 {g U sCap:Nat} {cur:Array Value} {ety:TypeId} (hg:w.heap[g]? =some (.cells cur ety (0,0)))
 {ad:Addr} {m c:Nat} {news:List Value} (hl:news.length=m*i.size) (hnews:∀j u,news[j]? =some u->w.cell? (ad.add j)=some u) (h1:∀u ∈ news,u.oneCell'=true)
 (hroom:U+m<=sCap) (hfit:U*i.size+news.length<=cur.size):
 (Builtin.append_ #[t,t] ty #[.slice (some ⟨g,0,none⟩) U sCap,.slice (some ad) m c]).run P w=
   .ok (.slice (some ⟨g,0,none⟩) (U+m) sCap) (w.setRow g (cur.toList.take (U*i.size)++news++cur.toList.drop (U*i.size+news.length)).toArray):=by
 have hf:=run_firstCells_some (P:=P) w i.size m ad m c news hl hnews
 have hst:=run_storeCells_at P g (U*i.size) ety news 0 cur w hg AC h1
 simp only [Nat.add_zero] at hst
 simp [Builtin.append_,run_underlying ht,sizeOf,typeInfo,hi,Builtin.lenOf,hroom,hf,CH,hst]
theorem O7 {t ty e:TypeId} {i:TypeInfo} (ht:P.underlying t=some (.slice e)) (hi:P.info? e=some i) {ad U:Option Addr} {n cap c:Nat} (h:n<=cap):
 (Builtin.append_ #[t,t] ty #[.slice ad n cap,.slice U 0 c]).run P w=.ok (.slice ad n cap) w:=by
 have hf:∀size:Nat,(Builtin.firstCells size 0 (.slice U 0 c)).run P w=.ok #[] w:=by
  intro size
  cases U<;>simp [Builtin.firstCells,loadCells,loadCellsFrom]
 cases ad<;>simp [Builtin.append_,run_underlying ht,sizeOf,typeInfo,hi,Builtin.lenOf,h,hf,storeCells]
theorem Cc.flat {sz:Nat}:∀{l:List (List V)} {vs:List Value},Cc I sz l vs->Ao I l.flatten vs
 |[],vs,k=>by simp only [Cc] at k;subst k;rfl
 |v::l,vs,k=>by
  simp only [Cc] at k
  obtain ⟨u1,s,e,k1,U,k3⟩:=k
  subst e
  rw [List.flatten_cons]
  exact Ao.append U (Cc.flat k3)
theorem Ao.BE:∀{vs:List Value} {m:Nat},vs.length=m->Ao I (List.replicate m .BE) vs
 |[],m,e=>by subst e;rfl
 |v::r,m,e=>by
  obtain ⟨k,rfl⟩:∃k,m=k+1:=⟨r.length,i7⟩
  rw [List.replicate_succ]
  simp only [Ao]
  exact ⟨v,r,rfl,by simp only [AM],Ao.BE i7⟩
theorem Qn {t:TypeId} {x y:Operand} {ty:TypeId} {sz bytes b n cap el:Nat} {new:List (List V)} {own:AE} (hT:G4 P T) (hK:CA D I0 st0 w0 β env.Bs a o.dst next K) (h:Rel D I0 st0 w0 I β env st a w)
 (hr:∀(c:Value) (w':World),(Builtin.append_ #[t,t] ty #[a.eval x,a.eval y]).run P w=.ok c w'->(execOp a.eval o).run P w=.ok (.value c) w')
 (ht:assoc T t=some (.slice el sz bytes)) (hx:A2 I β (.FP sz b n cap) (a.eval x)) (hy:A2 I β (.slice sz new own) (a.eval y))
 (k:Hy sz bytes b n cap new st λv st'=>K v env st'):o.wp P a w next Qc:=by
 obtain ⟨hb,hlim,k⟩:=k
 obtain ⟨hsc,hne,cs,hcs,hlc,k⟩:=As.1 k
 obtain ⟨i0,j,c,g1,g2,g3,g4,g5,g6,g7,g8,g9,g10⟩:=hT t _ ht
 subst g6
 subst g7
 obtain ⟨x1,x2,x3,x4⟩:=N5 hx
 obtain ⟨ay,cap',y1,y2,y3,y4,y5,y6⟩:=Gy hy
 obtain ⟨vs,ety,hw,hvs⟩:=h.s.box b cs hcs
 have hvl:=Ao.length hvs
 have hpos:0<new.length:=List.length_pos_iff.2 hne
 cases ay with
 |none=>omega
 |some ay=>
  obtain ⟨by1,oy,spy⟩:=ay
  simp only at y6
  obtain ⟨y0,y6⟩:=y6
  obtain rfl:spy=none:=y0.resolve_left AC
  obtain ⟨news,n1,n2⟩:=J2 h.s y6
  have n2':∀jj v,news[jj]? =some v->w.cell? ((⟨by1,oy,none⟩:Addr).add jj)=some v:=λjj v e=>by rw [CH];simp_all
  have nl:=Cc.length n1
  have nsc:=Cc.sc n1 hsc
  have h63:((n+new.length:Nat):Int)<=9223372036854775807:=by simp only [DG] at hlim;omega
  have hmc:n*j.size<=cap*j.size:=Nat.mul_le_mul_right _ x2
  rcases Nat.lt_or_ge cap (n+new.length) with hlt|U
  .have hge:=grownCap_ge w (n+new.length) cap el
   have hz:∀q:Nat,(Builtin.zeroCells c.cells q).toList.length=q*j.size:=λq=>by rw [Array.length_toList,size_zeroCells,g10]
   have ho:(vs.take (n*j.size)).length=n*j.size:=NE
   have hrun:=run_append_grow (P:=P) w t ty el j c g2 g5 g9 ⟨b,0,none⟩ n cap (vs.take (n*j.size)) ho (λjj v e=>by
    rw [CH,Nat.zero_add]
    refine Jc hw ?_
    grind) ⟨by1,oy,none⟩ new.length cap' news nl n2' hlt h63 (growslice_fits hlt AC)
   have hm:(Builtin.zeroCells c.cells (grownCap w (n+new.length) cap el - (n+new.length))).toList.length=(grownCap w (n+new.length) cap el - (n+new.length))*j.size:=hz _
   have r1:=(h.HO (Et.drew w)).Lp (cs:=cs.take (n*j.size)++(new.map (·.map V.JB)).flatten++List.replicate ((grownCap w (n+new.length) cap el - (n+new.length))*j.size) .BE)
    (vs:=vs.take (n*j.size)++news++(Builtin.zeroCells c.cells (grownCap w (n+new.length) cap el - (n+new.length))).toList)
    (Ao.append (Ao.append (Ao.take _ hvs) n1.wk.flat) (Ao.BE hm)) el
   have harr:(vs.take (n*j.size)++news++(Builtin.zeroCells c.cells (grownCap w (n+new.length) cap el - (n+new.length))).toList).toArray=
    (vs.take (n*j.size)).toArray++news.toArray++Builtin.zeroCells c.cells (grownCap w (n+new.length) cap el - (n+new.length)):=by
    apply Array.ext';simp
   rw [harr] at r1
   refine AL (β':=β) hK (hr _ _ (by rw [x1,y1];exact hrun)) r1 (A2.of (by simp only [AM];exact ⟨rfl,hge,hlim,x4⟩)) (k w.heap.size _ _ (.inr (DF h.s)) ?_)
   rw [<-Nat.add_mul];simp_all
  .have hmul:(n+new.length)*j.size<=cap*j.size:=Nat.mul_le_mul_right _ U
   have hnm:n*j.size+new.length*j.size=(n+new.length)*j.size:=(Nat.add_mul ..).symm
   have hrun:=Jo (P:=P) (ty:=ty) (c:=cap') g2 g5 hw nl n2' nsc U i7
   have hm:(vs.drop (n*j.size+news.length)).length=cap*j.size - (n+new.length)*j.size:=by rw [List.length_drop,nl];omega
   have r1:=h.K3 (b:=b) (cs':=cs.take (n*j.size)++(new.map (·.map V.JB)).flatten++List.replicate (cap*j.size - (n+new.length)*j.size) .BE) (us:=vs.take (n*j.size)++news++vs.drop (n*j.size+news.length)) hcs hw
    (Ao.append (Ao.append (Ao.take _ hvs) n1.wk.flat) (Ao.BE hm))
   refine AL (β':=β) hK (hr _ _ (by rw [x1,y1];exact hrun)) r1 (A2.of (by simp only [AM];exact ⟨rfl,U,hlim,x4⟩)) (k _ _ _ (.inl rfl) ?_)
   omega
theorem Xr {t u:TypeId} {x y:Operand} {ty:TypeId} (hT:G4 P T) (hK:CA D I0 st0 w0 β env.Bs a o.dst next K) (h:Rel D I0 st0 w0 I β env st a w)
 (hr:∀(c:Value) (w':World),(Builtin.append_ #[t,u] ty #[a.eval x,a.eval y]).run P w=.ok c w'->(execOp a.eval o).run P w=.ok (.value c) w')
 (k:match assoc T t,assoc T u,env.Bu T t x,env.Bu T u y with
   |some (.slice _ sz bytes),some (.slice _ _ _),.slice sz' es own,.slice sz'' new _=>
    DM (Nat.beq t u&&(Nat.beq sz sz'&&Nat.beq sz sz'')) (Am sz bytes es own new st λv st'=>K v env st')
   |some (.slice _ sz bytes),some (.slice _ _ _),.FP sz' b n cap,.slice sz'' new _=>
    DM (Nat.beq t u&&(Nat.beq sz sz'&&Nat.beq sz sz'')) (Hy sz bytes b n cap new st λv st'=>K v env st')
   |_,_,_,_=>False):o.wp P a w next Qc:=by
 have hx:=h.f.Bu hT t x
 have hy:=h.f.Bu hT u y
 split at k
 .rename_i el sz by' _ _ _ sz' es own sz'' new own' ht hu hex hey
  rw [hex] at hx
  rw [hey] at hy
  obtain ⟨h1,k1⟩:=As.1 k
  clear k
  simp only [Bool.and_eq_true] at h1
  obtain ⟨e1,e2,e3⟩:=h1
  have e1:=Nat.eq_of_beq_eq_true e1
  have e2:=Nat.eq_of_beq_eq_true e2
  have e3:=Nat.eq_of_beq_eq_true e3
  subst e1;subst e2;subst e3
  obtain ⟨hb,hlim,k2⟩:=k1
  obtain ⟨hsc,k3⟩:=As.1 k2
  clear k2
  obtain ⟨i0,j,c,g1,g2,g3,g4,g5,g6,g7,g8,g9,g10⟩:=hT t _ ht
  subst g6
  subst g7
  obtain ⟨ax,cap,x1,x2,x3,x4,x5,x6⟩:=Gy hx
  obtain ⟨ay,cap',y1,y2,y3,y4,y5,y6⟩:=Gy hy
  cases hnew:new with
  |nil=>
   subst hnew
   have hrun:=hr _ _ (by rw [x1,y1];exact O7 g2 g5 x2)
   cases own with
   |any=>simp_all
   |full=>exact AL hK hrun h (A2.of (by have:AM I (.slice j.size es .full) (a.eval x):=hx;simp_all)) (k3.1 rfl)
   |tok b=>
    obtain ⟨hh,k3⟩:=k3
    rcases k3 with k3|k3
    rotate_left
    .exact AL (v:=.BE) hK hrun h (A2.of (by simp only [AM])) k3
    have k4:=k3 b (.inl rfl)
    simp only [List.map_nil,List.append_nil,List.length_nil,Nat.add_zero] at k4
    have hle:((st.Ew b).BZ b (es.length*j.size)).le st:=by
     refine ⟨λ_ _ e=>e,λz n e=>?_⟩
     simp only [St.BZ,St.Ew] at e
     split at e
     .simp_all
     .exact e
    exact AL hK hrun (h.Hs hle) (A2.of (by have:AM I (.slice j.size es (.tok b)) (a.eval x):=hx;simp_all)) k4
  |cons n0 nr=>
   have hpos:0<new.length:=by rw [hnew];simp
   have hne:new≠[]:=by rw [hnew];simp
   cases ay with
   |none=>omega
   |some ay=>
    obtain ⟨by1,oy,spy⟩:=ay
    simp only at y6
    obtain ⟨y0,y6⟩:=y6
    obtain rfl:spy=none:=y0.resolve_left AC
    obtain ⟨news,n1,n2⟩:=J2 h.s y6
    have n2':∀jj v,news[jj]? =some v->w.cell? ((⟨by1,oy,none⟩:Addr).add jj)=some v:=λjj v e=>by rw [CH];simp_all
    have nl:=Cc.length n1
    have nsc:=Cc.sc n1 hsc
    have h63:((es.length+new.length:Nat):Int)<=9223372036854775807:=by simp only [DG] at hlim;omega
    have grow:∀(U:List Value) (oldCap:Nat) (kk:V->St->Prop),
     Cc I j.size es U->oldCap<es.length+new.length->
     (Builtin.append_ #[t,t] ty #[a.eval x,a.eval y]).run P w=.ok (.slice (some ⟨w.heap.size,0,none⟩) (es.length+new.length) (grownCap w (es.length+new.length) oldCap el))
       (w.drew.alloc (.cells (U.toArray++news.toArray++Builtin.zeroCells c.cells (grownCap w (es.length+new.length) oldCap el - (es.length+new.length))) el))->
     ∀v st',(v=.slice j.size (es++new.map (·.map V.JB)) (.tok w.heap.size)\/v=.BE)->st'.le (st.BZ w.heap.size ((es.length+new.length)*j.size))->K v env st'->o.wp P a w next Qc:=by
     intro U oldCap kk ho hlt hrun v st' hv hle hk
     have hge:=grownCap_ge w (es.length+new.length) oldCap el
     have hall:Cc I j.size (es++new.map (·.map V.JB)) (U++news):=ho.append n1.wk
     have hlen:(es++new.map (·.map V.JB)).length=es.length+new.length:=GT
     have hlo:=Cc.length ho
     have hz:∀q:Nat,(Builtin.zeroCells c.cells q).toList.length=q*j.size:=λq=>by rw [Array.length_toList,size_zeroCells,g10]
     obtain ⟨r1,r2⟩:=(h.HO (Et.drew w)).SP (rest:=(Builtin.zeroCells c.cells (grownCap w (es.length+new.length) oldCap el - (es.length+new.length))).toList) (ty:=el)
      (cap:=grownCap w (es.length+new.length) oldCap el) hall x4 AC
      (by rw [List.length_append,hlo,nl,hz,<-Nat.add_mul,<-Nat.add_mul];simp_all) AC
     rw [hlen] at r1 r2
     refine AL (β':=β) (v:=v) hK (hr _ _ hrun) ?_ (by rcases hv with rfl|rfl<;>first|exact A2.of r2|exact A2.of (by simp only [AM])) hk
     refine Rel.Hs ?_ hle
     have:(U++news++(Builtin.zeroCells c.cells (grownCap w (es.length+new.length) oldCap el - (es.length+new.length))).toList).toArray=
      U.toArray++news.toArray++Builtin.zeroCells c.cells (grownCap w (es.length+new.length) oldCap el - (es.length+new.length)):=by
      apply Array.ext';simp
     rw [this] at r1
     exact r1
    have IL:∃U,Cc I j.size es U/\(cap<es.length+new.length->(Builtin.append_ #[t,t] ty #[a.eval x,a.eval y]).run P w=.ok (.slice (some ⟨w.heap.size,0,none⟩) (es.length+new.length) (grownCap w (es.length+new.length) cap el))
     (w.drew.alloc (.cells (U.toArray++news.toArray++Builtin.zeroCells c.cells (grownCap w (es.length+new.length) cap el - (es.length+new.length))) el))):=by
     cases ax with
     |none=>
      simp only at x6
      subst x6
      have:es=[]:=List.eq_nil_of_length_eq_zero AC
      subst this
      refine ⟨[],H1,λhlt=>?_⟩
      have:=run_append_nil (P:=P) w t ty el j c g2 g5 g9 ⟨by1,oy,none⟩ new.length cap' news nl n2' hpos AC (by grind)
      simp_all
     |some ax=>
      obtain ⟨bx,ox,spx⟩:=ax
      simp only at x6
      obtain ⟨x0,x6⟩:=x6
      obtain ⟨U,o1,o2⟩:=J2 h.s x6
      refine ⟨U,o1,λhlt=>?_⟩
      rw [x1,y1]
      exact run_append_grow (P:=P) w t ty el j c g2 g5 g9 ⟨bx,ox,spx⟩ es.length cap U (Cc.length o1) (λjj v e=>by
       rcases x0 with x0|x0
       .have h0:es.length=0:=AC
        have:=Cc.length o1
        simp_all
       .have x0:spx=none:=x0
        subst x0
        rw [CH];simp_all) ⟨by1,oy,none⟩ new.length cap' news nl n2' hlt h63
       (growslice_fits hlt AC)
    obtain ⟨U,o1,o2⟩:=IL
    have hfr:=DF h.s
    cases own with
    |any=>simp_all
    |full=>
     have hc:cap=es.length:=x5
     rcases k3.2 hne with k4|k4
     .exact grow U cap (λ_ _=>True) o1 AC (o2 AC) _ _ (.inl rfl) (St.le_refl _) (k4 _ hfr)
     .have hge:=grownCap_ge w (es.length+new.length) cap el
      have hz:(Builtin.zeroCells c.cells (grownCap w (es.length+new.length) cap el - (es.length+new.length))).toList.length=(grownCap w (es.length+new.length) cap el - (es.length+new.length))*j.size:=by rw [Array.length_toList,size_zeroCells,g10]
      have r1:=(h.HO (Et.drew w)).Lp (cs:=(es++new.map (·.map V.JB)).flatten++List.replicate ((grownCap w (es.length+new.length) cap el - (es.length+new.length))*j.size) .BE)
       (vs:=U++news++(Builtin.zeroCells c.cells (grownCap w (es.length+new.length) cap el - (es.length+new.length))).toList)
       (Ao.append (o1.append n1.wk).flat (Ao.BE hz)) el
      have harr:(U++news++(Builtin.zeroCells c.cells (grownCap w (es.length+new.length) cap el - (es.length+new.length))).toList).toArray=
       U.toArray++news.toArray++Builtin.zeroCells c.cells (grownCap w (es.length+new.length) cap el - (es.length+new.length)):=by
       apply Array.ext';simp
      rw [harr] at r1
      refine AL (β':=β) hK (hr _ _ (o2 AC)) r1 (A2.of (by simp only [AM];exact ⟨rfl,hge,hlim,x4⟩)) (k4 _ _ _ hfr ?_)
      rw [<-Nat.add_mul];simp_all
    |tok b=>
     obtain ⟨hh,k3⟩:=k3
     obtain ⟨t1,t2⟩:=x5
     subst t1
     rcases Nat.lt_or_ge cap (es.length+new.length) with hlt|hroom
     .rcases k3 with k3|k3
      .refine grow U cap (λ_ _=>True) o1 hlt (o2 hlt) _ _ (.inl rfl) ?_ (k3 w.heap.size (.inr hfr))
       refine ⟨λ_ _ e=>e,λz n e=>?_⟩
       simp only [St.BZ,St.Ew] at e |-
       grind
      .exact grow U cap (λ_ _=>True) o1 hlt (o2 hlt) _ _ (.inr rfl) (St.Fk (St.le_refl _) hfr.2 _) k3
     .obtain ⟨cur,ety,c1,c2⟩:=h.s.shape b _ t2
      have hmul:(es.length+new.length)*j.size<=cap*j.size:=Nat.mul_le_mul_right _ hroom
      rw [Nat.add_mul] at hmul
      have hfit:es.length*j.size+news.length<=cur.size:=by rw [nl,c2];exact hmul
      have hrun:=Jo (P:=P) (ty:=ty) (c:=cap') g2 g5 c1 nl n2' nsc hroom hfit
      have hcur:cur=cur.toList.toArray:=GT
      rcases k3 with k3|k3
      rotate_left
      .have r1:=h.pD (b:=b) (n:=es.length*j.size) (cur:=cur.toList) (ty:=ety) hh (by rw [<-hcur];exact c1) news (by rw [Array.length_toList];exact hfit)
       exact AL (v:=.BE) hK (hr _ _ (by rw [x1,y1];exact hrun)) r1 (A2.of (by simp only [AM])) k3
      have r1:=h.kG (b:=b) (n:=es.length*j.size) (m:=cap*j.size) (cur:=cur.toList) (ty:=ety) hh AC t2 news AC
      have hadd:es.length*j.size+news.length=(es.length+new.length)*j.size:=by rw [nl,Nat.add_mul]
      rw [hadd] at r1
      have hf:=(h.s.hw b _ hh).2
      have hl:I.le (I.add b (es.length*j.size) news (cap*j.size)):=Mem.SC hf (.inr t2)
      refine AL hK (hr _ _ (by rw [x1,y1];exact hrun)) (by rw [hadd];exact r1) (A2.of ?_) (k3 b (.inl rfl))
      simp only at x6
      simp only [AM]
      refine ⟨some ⟨b,0,none⟩,cap,GT,by grind,by grind,x4,⟨rfl,hl.2 _ _ t2⟩,.inr rfl,?_⟩
      refine Cq.append (Cq.mono hl _ _ _ _ x6.2) ?_
      refine Cq.add _ news _ n1.wk hl λjj v e=>?_
      rw [Nat.zero_add]
      exact Mem.Mi e
 .rename_i el sz by' _ _ _ sz' b n cap sz'' new own' ht hu hex hey
  rw [hex] at hx
  rw [hey] at hy
  obtain ⟨h1,k1⟩:=As.1 k
  clear k
  simp only [Bool.and_eq_true] at h1
  obtain ⟨e1,e2,e3⟩:=h1
  have e1:=Nat.eq_of_beq_eq_true e1
  have e2:=Nat.eq_of_beq_eq_true e2
  have e3:=Nat.eq_of_beq_eq_true e3
  subst e1;subst e2;subst e3
  exact Qn hT hK h hr ht hx hy k1
 simp_all
end
theorem Vq {s:List UInt8} {pos:Nat} (h:pos<s.length):Utf8.decode ⟨s.toArray⟩ pos=AU (s.drop pos):=by
 have U:∀k,(ByteArray.get! ⟨s.toArray⟩ (pos+k)).toNat=((s.drop pos).getD k 0).toNat:=λk=>by
  simp only [ByteArray.get!,List.getD_eq_getElem?_getD,List.getElem?_drop]
  by_cases hk:pos+k<s.length
  .simp [hk]
  .simp [hk];rfl
 have hd:s.drop pos=s[pos]::s.drop (pos+1):=List.drop_eq_getElem_cons h
 have hc:∀k,(decide (pos+(k+1)<s.length)&&((s.drop (pos+1)).getD k 0).toNat / 64==2)=(match (s.drop (pos+1))[k]? with|some b=>b.toNat / 64==2|none=>false):=λk=>by grind
 have h1:∀k,((s.drop pos).getD (k+1) 0)=((s.drop (pos+1)).getD k 0):=λk=>by grind
 have h0:(ByteArray.get! ⟨s.toArray⟩ (pos+0)).toNat=(s[pos]).toNat:=by rw [U,hd];rfl
 have hz:(⟨s.toArray⟩:ByteArray).size=s.length:=by simp [ByteArray.size]
 unfold Utf8.decode
 simp only [hz]
 rw [hd]
 unfold AU
 simp only [h0]
 have c0:(decide (pos+1<s.length)&&((s.drop (pos+1)).getD 0 0).toNat / 64==2)=(match (s.drop (pos+1))[0]? with|some b=>b.toNat / 64==2|none=>false):=hc 0
 have c1:(decide (pos+2<s.length)&&((s.drop (pos+1)).getD 1 0).toNat / 64==2)=(match (s.drop (pos+1))[1]? with|some b=>b.toNat / 64==2|none=>false):=hc 1
 have c2:(decide (pos+3<s.length)&&((s.drop (pos+1)).getD 2 0).toNat / 64==2)=(match (s.drop (pos+1))[2]? with|some b=>b.toNat / 64==2|none=>false):=hc 2
 have g1:=U 1
 have g2:=U 2
 have g3:=U 3
 rw [h1] at g1 g2 g3
 simp only [g1,g2,g3,c0,c1,c2]
 rfl
section
variable {D:List Deferred} {P:Program} {T:List (Nat×Ty)} {C:FuncId->List V->St->(Au->St->Prop)->Prop} {I0 I:Mem} {st0 st:St} {w0 w:World} {β:Nat->Option Nat} {env:Env} {a:Act}
variable {o:Oper} {K:V->Env->St->Prop} {Q:AG->Env->St->Prop} {next:Act->World->Prop} {Qc:Exit->Act->World->Prop}
theorem Rel.pE (h:Rel D I0 st0 w0 I β env st a w) {id b:Nat} {cs':List V} {ob:Obj} {w':World} (hb:β id=some b) (hn:w'.heap[b]? =some ob) (k:Laid I (some ob) cs') (ho:∀x,x≠b->w'.heap[x]? =w.heap[x]?)
 (e1:w'.os=w.os) (e2:w'.tape=w.tape) (e3:w'.output=w.output) (e4:w'.heap.size=w.heap.size):Rel D I0 st0 w0 I β {env with boxes:=(id,cs')::env.boxes} st a w':=by
 obtain ⟨s1,s2,s3,s4,s5,s6⟩:=h.f.sep id b hb
 refine ⟨⟨e1.trans h.fr.os,e2.trans h.fr.tape,e3.trans h.fr.output,AC,λx U h1 h2=>?_,h.fr.le,h.fr.new,h.fr.LU,h.fr.LQ⟩,⟨?_,?_,?_,h.s.Iz,?_,h.s.T0⟩,⟨h.f.size,h.f.tmps,?_,h.f.Bs,h.f.inj,?_,h.f.defers⟩⟩
 .rw [ho x AC];exact h.fr.IL x U h1 h2
 .intro x o v e
  have U:x≠b:=λU=>by simp_all
  rw [Hi (ho x U)];exact h.s.cell x o v e
 .intro x n e
  have U:x≠b:=λU=>by simp_all
  obtain ⟨c,ty',h1,h2⟩:=h.s.shape x n e
  simp_all
 .intro x n e
  have U:x≠b:=λU=>by simp_all
  obtain ⟨c,ty',h1,h2⟩:=h.s.box x n e
  simp_all
 .intro x n e
  exact ⟨by rw [e4];exact (h.s.hw x n e).1,(h.s.hw x n e).2⟩
 .intro id' c e
  rw [Bk] at e
  cases hq:Nat.beq id id' with
  |true=>
   simp_all
  |false=>
   rw [hq] at e
   obtain ⟨b',h1,h2⟩:=h.f.box id' c e
   have U:b'≠b:=λU=>by
    subst U
    have:=h.f.inj _ _ _ h1 hb
    simp_all
   simp_all
 .intro id' b' e
  obtain ⟨h1,h2,h3⟩:=h.f.sep id' b' e
  simp_all
theorem TY {t u:TypeId} {x:Operand} (hT:G4 P T) (hK:CA D I0 st0 w0 β env.Bs a o.dst next K) (h:Rel D I0 st0 w0 I β env st a w) (ho:o.op=.convert t u x)
 (k:match assoc T t,assoc T u,env.eval x with
 |some (.sc (.int _ _)),some (.sc (.int U _)),.int _ n=>∃r,r=U.wrap n/\K (.int U r) env st
 |_,_,_=>False):o.wp P a w next Qc:=by
 have hx:=h.f.eval x
 split at k
 .rename_i k0 n0 U n' k2 n ht hu hv
  rw [hv] at hx
  obtain ⟨r,rfl,k⟩:=k
  obtain ⟨i0,d0,c0,_,g0,_⟩:=hT t _ ht
  obtain ⟨i1,d1,c1,_,g1,_,_,_,_,_,_,_,g2⟩:=hT u _ hu
  have g2:d1=.int U:=g2
  subst g2
  refine AL hK (c:=.int U (U.wrap n)) (w':=w) ?_ h (A2.of H1) k
  have hx:a.eval x=.int k2 n:=hx
  simp [execOp,ho,convert,hx,Az g0,Az g1,Conv.intToInt]
 simp_all
theorem ZN {t:TypeId} {x:Operand} (hT:G4 P T) (hK:CA D I0 st0 w0 β env.Bs a o.dst next K) (h:Rel D I0 st0 w0 I β env st a w) (ho:o.op=.range t x)
 (k:match assoc T t,env.eval x with
 |some (.sc (.str _)),.str s=>DM (!env.Qk o.dst) (match env with
  |⟨ts,bs,n,sz,gl⟩=>K (.BO n 0) ⟨ts,(n,[.Ql s 0])::bs,n+1,sz,gl⟩ st)
 |_,_=>False):o.wp P a w next Qc:=by
 have U:=h.f.eval x
 split at k
 .rename_i z0 s ht hv
  rw [hv] at U
  obtain ⟨i1,d1,c1,_,g1,_,_,_,_,_,_,_,g2⟩:=hT t _ ht
  have g2:d1=.string:=g2
  subst g2
  obtain ⟨_,k⟩:=As.1 k
  have U:a.eval x=.string ⟨s.toArray⟩/\s.length<DG:=U
  have hn:β env.Bs=none:=by
   cases e:β env.Bs with
   |none=>rfl
   |some b=>exact absurd (h.f.Bs _ _ e) (Nat.lt_irrefl _)
  have hr:=h.YT (cs:=[.Ql s 0]) (ob:=.stringIter ⟨s.toArray⟩ 0) (x:=env.Bs) (n:=env.Bs+1) (.inr ⟨s,0,rfl,U.2,rfl⟩) hn (Nat.lt_succ_self _) (Nat.le_succ _)
  refine AL hK (c:=.pointer (some ⟨w.heap.size,0,none⟩)) (v:=.BO env.Bs 0) (w':=w.alloc (.stringIter ⟨s.toArray⟩ 0)) ?_ hr (show ∃b,_/\_ from ⟨w.heap.size,if_pos rfl,rfl⟩) k (λid hid=>if_neg AC)
  simp only [execOp,ho,Instr.range,Sem.run_bind,Az g1,Result.andThen_ok,U.1,run_newObj,Sem.run_pure,World.alloc_eq]
 simp_all
theorem P5 {s:ByteArray} {pos b:Nat} {w:World} (h:w.heap[b]? =some (.stringIter s pos)):(getObj b).run P w=.ok (.stringIter s pos) w:=by
 simp only [getObj,Sem.run,h]
theorem Zw {s:ByteArray} {pos b:Nat} {w:World} {ob:Obj} (h:w.heap[b]? =some (.stringIter s pos)):(setObj b ob).run P w=.ok () {w with heap:=w.heap.setIfInBounds b ob}:=by
 simp only [setObj,Sem.run,h]
theorem cS {x:Operand} (hK:CA D I0 st0 w0 β env.Bs a o.dst next K) (h:Rel D I0 st0 w0 I β env st a w) (ho:o.op=.next x true)
 (k:match env.eval x with
 | .BO id 0=>match assoc env.boxes id with
   |some [.Ql s pos]=>match env with
    |⟨ts,bs,n,sz,gl⟩=>Bn (decide (pos<s.length)) (∀c m,(c,m)=AU (s.drop pos)->K (.Bp [.bool true,.int .i64 pos,.int .i32 c]) ⟨ts,(id,[.Ql s (pos+m)])::bs,n,sz,gl⟩ st) (K (.Bp [.bool false]) ⟨ts,bs,n,sz,gl⟩ st)
   |_=>False
 |_=>False):o.wp P a w next Qc:=by
 have U:=h.f.eval x
 split at k
 .rename_i id he
  rw [he] at U
  obtain ⟨b,hb,U⟩:=HW U
  split at k
  .rename_i s pos hcs
   obtain ⟨b',h1,h2⟩:=h.f.box id _ hcs
   rw [hb] at h1
   injection h1 with h1
   subst h1
   have h2:s.length<DG/\w.heap[b]? =some (.stringIter ⟨s.toArray⟩ pos):=by
    rcases h2 with ⟨vs,ty,_,h2⟩|⟨s',pos',e,h3,h4⟩
    .simp only [Ao,AM] at h2
     simp_all
    .simp_all
   have hz:(⟨s.toArray⟩:ByteArray).size=s.length:=by simp [ByteArray.size]
   by_cases hp:pos<s.length
   .rw [decide_eq_true hp] at k
    have k:=Bg.1 k (AU (s.drop pos)).1 (AU (s.drop pos)).2 rfl
    have hlt:b<w.heap.size:=Gt h2.2
    let w':World:={w with heap:=w.heap.setIfInBounds b (.stringIter ⟨s.toArray⟩ (pos+(AU (s.drop pos)).2))}
    have hr:=h.pE (w':=w') (ob:=.stringIter ⟨s.toArray⟩ (pos+(AU (s.drop pos)).2)) (cs':=[.Ql s (pos+(AU (s.drop pos)).2)]) hb (by grind) (.inr ⟨s,_,rfl,h2.1,rfl⟩)
     (λx U=>by grind) rfl rfl rfl (by simp [w'])
    refine AL hK (c:=.tuple #[.bool true,.int .i64 pos,.int .i32 ((AU (s.drop pos)).1:Nat)]) (w':=w') ?_ hr (A2.of ?_) k
    .have U:a.eval x=.pointer (some ⟨b,0,none⟩):=U
     have hp':pos<(⟨s.toArray⟩:ByteArray).size:=by rw [hz];exact hp
     simp only [execOp,ho,Instr.next,U,Sem.run_bind,P5 h2.2,Result.andThen_ok,if_pos hp',Vq hp,Zw h2.2,Sem.run_pure,goInt]
     rfl
    .simp only [AM]
     exact ⟨[.bool true,.int .i64 pos,.int .i32 ((AU (s.drop pos)).1:Nat)],rfl,by simp only [Ao,AM];simp_all⟩
   .rw [decide_eq_false hp] at k
    have k:=A8.1 k
    refine AL hK (c:=.tuple #[.bool false]) (w':=w) ?_ h (A2.of ?_) k
    .have U:a.eval x=.pointer (some ⟨b,0,none⟩):=U
     have hp':¬pos<(⟨s.toArray⟩:ByteArray).size:=by rw [hz];exact hp
     simp only [execOp,ho,Instr.next,U,Sem.run_bind,P5 h2.2,Result.andThen_ok,if_neg hp',Sem.run_pure]
    .simp only [AM]
     exact ⟨[.bool false],rfl,by simp only [Ao,AM];simp_all⟩
  simp_all
 simp_all
end
section
variable {D:List Deferred} {P:Program} {T:List (Nat×Ty)} {C:FuncId->List V->St->(Au->St->Prop)->Prop} {I0 I:Mem} {st0 st:St} {w0 w:World} {β:Nat->Option Nat} {env:Env} {a:Act}
variable {o:Oper} {K:V->Env->St->Prop} {Q:AG->Env->St->Prop} {next:Act->World->Prop} {Qc:Exit->Act->World->Prop}
theorem jm {c:Call} (hT:G4 P T) (hK:CA D I0 st0 w0 β env.Bs a o.dst next K) (h:Rel D I0 st0 w0 I β env st a w) (ho:o.op=.call c) (hc:c.callee=.builtin .len)
 (k:match c.args.toList.map env.eval,c.argTypes.toList.map (assoc T) with
   |[.slice _ es _],[some (.slice _ _ _)]=>∀m:Nat,m=es.length->m<DG->K (.int .i64 m) env st
   |[.str s],[some (.sc (.str _))]=>s.length<DG->K (.int .i64 s.length) env st
   |[.FP _ _ n _],[some (.slice _ _ _)]=>n<DG->K (.int .i64 n) env st
   |_,_=>False):o.wp P a w next Qc:=by
 obtain ⟨callee,⟨args⟩,⟨argTypes⟩⟩:=c
 simp only at hc k
 subst hc
 split at k
 .rename_i sz es own el sz' by' hx ht
  obtain ⟨x,rfl,q1⟩:=List.map_eq_singleton_iff.1 hx
  obtain ⟨t,rfl,q2⟩:=List.map_eq_singleton_iff.1 ht
  have U:=h.f.eval x
  rw [q1] at U
  obtain ⟨ad,cap,e1,e2,e3,_⟩:=Gy U
  obtain ⟨i0,j,c,g1,g2,_⟩:=hT t _ q2
  refine AL hK (c:=.int .i64 es.length) (w':=w) ?_ h (A2.of H1) (k _ rfl e3)
  simp [execOp,ho,resolve,invoke,builtin,Builtin.len_,e1,Az g2,goInt]
 .rename_i s z hx ht
  obtain ⟨x,rfl,q1⟩:=List.map_eq_singleton_iff.1 hx
  obtain ⟨t,rfl,q2⟩:=List.map_eq_singleton_iff.1 ht
  have U:=h.f.eval x
  rw [q1] at U
  obtain ⟨e1,e3⟩:=Xf U
  obtain ⟨i0,d,c,g1,g2,g3,g4,g5,g6,g7,g8,g9,g10⟩:=hT t _ q2
  simp only at g10
  subst g10
  refine AL hK (c:=.int .i64 s.length) (w':=w) ?_ h (A2.of H1) (k e3)
  simp [execOp,ho,resolve,invoke,builtin,Builtin.len_,e1,Az g2,goInt,show (⟨s.toArray⟩:ByteArray).size=s.length by rfl]
 .rename_i sz b n cap el sz' by' hx ht
  obtain ⟨x,rfl,q1⟩:=List.map_eq_singleton_iff.1 hx
  obtain ⟨t,rfl,q2⟩:=List.map_eq_singleton_iff.1 ht
  have U:=h.f.eval x
  rw [q1] at U
  obtain ⟨e1,e2,e3,_⟩:=N5 U
  obtain ⟨i0,j,c,g1,g2,_⟩:=hT t _ q2
  refine AL hK (c:=.int .i64 n) (w':=w) ?_ h (A2.of H1) (k e3)
  simp [execOp,ho,resolve,invoke,builtin,Builtin.len_,e1,Az g2,goInt]
 simp_all
theorem iF (z:List Value):∀n:Nat,(madeCells z.toArray (n*z.length)).toList=(List.replicate n z).flatten:=by
 intro n
 by_cases U:z=[]
 .subst U;simp [madeCells]
 have hp:=List.length_pos_iff.2 U
 refine List.ext_getElem? λi=>?_
 simp only [madeCells,Array.toList_map,Array.toList_range,List.getElem?_map]
 induction n generalizing i with
 |zero=>simp
 |succ n ih=>
  rw [List.replicate_succ,List.flatten_cons]
  by_cases hi:i<z.length
  .rw [List.getElem?_append_left hi,List.getElem?_range (by grind)]
   simp [Nat.mod_eq_of_lt hi,hi]
  .rw [List.getElem?_append_right AC,<-ih (i - z.length)]
   by_cases hj:i<(n+1)*z.length
   .rw [List.getElem?_range hj,List.getElem?_range (by grind)]
    simp [Nat.mod_eq_sub_mod (show z.length<=i by omega)]
   grind
theorem Ao.rep {I:Mem} {z:List V} {vs:List Value} (h:Ao I z vs):∀n:Nat,Ao I (List.replicate n z).flatten (List.replicate n vs).flatten
 |0=>by rfl
 |n+1=>by rw [List.replicate_succ,List.replicate_succ,List.flatten_cons,List.flatten_cons];exact Ao.append h (Ao.rep h n)
theorem Qq {t:TypeId} {l m:Operand} (hT:G4 P T) (hK:CA D I0 st0 w0 β env.Bs a o.dst next K) (h:Rel D I0 st0 w0 I β env st a w) (ho:o.op=.makeSlice t l m)
 (k:match assoc T t,env.eval l,env.eval m with
 |some (.slice el sz bytes),.int _ n,.int _ m=>(0<=n/\n<=m/\m*bytes<=140737488355328/\m<DG)/\
  ((n=0/\∀b,st.fresh b->K (.slice sz [] (.tok b)) env (st.BZ b 0))\/
   (n=m/\match assoc T el with|some ty=>∀b k,st.fresh b->k=n.toNat->K (.FP sz b k k) env (st.Aa b (List.replicate k ty.zero.cells).flatten)|none=>False))
 |_,_,_=>False):o.wp P a w next Qc:=by
 have hl:=h.f.eval l
 have hm:=h.f.eval m
 split at k
 .rename_i el sz bytes _ n _ mm ht hel hem
  rw [hel] at hl
  rw [hem] at hm
  have hl:=GP hl
  have hm:=GP hm
  obtain ⟨⟨h0,hnm,hby,hlim⟩,k⟩:=k
  obtain ⟨i0,j,c,g1,g2,g3,g4,g5,g6,g7,g8,g9,g10⟩:=hT t _ ht
  have hb:(j.bytes:Int)*mm<=281474976710656:=by rw [g7,Int.mul_comm];omega
  have hmm:mm<=9223372036854775807:=by unfold DG at hlim;omega
  have hrun:∀kl kc,(Instr.makeSlice t (.int kl n) (.int kc mm)).run P w=.ok (.slice (some ⟨w.heap.size,0,none⟩) n.toNat mm.toNat) (w.alloc (.cells (madeCells c.cells (mm.toNat*j.size)) el)):=
   λkl kc=>run_make w t el j c g2 g5 g9 kl kc n mm h0 hnm hb hmm
  have hex:∀v w',(Instr.makeSlice t (a.eval l) (a.eval m)).run P w=.ok v w'->(execOp a.eval o).run P w=.ok (.value v) w':=λv w' e=>by
   simp only [execOp,ho,Sem.run_bind,Sem.run_pure,e,Result.andThen_ok]
  rcases k with ⟨rfl,k⟩|⟨rfl,k⟩
  .obtain ⟨r1,r2⟩:=h.SP (sz:=sz) (es:=[]) (vs:=[]) (rest:=(madeCells c.cells (mm.toNat*j.size)).toList) (ty:=el) (cap:=mm.toNat) H1 g8 Do
    (by rw [List.length_nil,Nat.zero_add,Array.length_toList,size_madeCells,g6]) (Nat.zero_le _)
   rw [List.nil_append,Array.toArray_toList] at r1
   simp only [List.length_nil,Nat.zero_mul] at r1
   refine AL hK (hex _ _ (by rw [hl,hm];exact hrun _ _)) r1 (A2.of ?_) (k _ (DF h.s))
   exact r2
  .split at k
   .rename_i ty hty
    have hz:∃vs:List Value,c.cells=vs.toArray/\Ao I ty.zero.cells vs:=by
     have hty:=hT el ty hty
     cases ty with
     |struct offs z=>
      obtain ⟨i,fields,zs,U,h2,h3,h4,h5,_⟩:=hty
      rw [g5] at U;injection U with U;subst U
      rw [g9] at h4;injection h4 with h4;subst h4
      exact ⟨zs,rfl,Ao.mono (Mem.empty_le I) _ _ h5⟩
     |arr offs z=>
      obtain ⟨i,n',e',j',zs,U,h2,h3,h4,h5,_⟩:=hty
      rw [g5] at U;injection U with U;subst U
      rw [g9] at h4;injection h4 with h4;subst h4
      exact ⟨zs,rfl,Ao.mono (Mem.empty_le I) _ _ h5⟩
     |sc z=>
      obtain ⟨i,d,c',U,h2,h3,h4,h5,h6,h7,h8,h9,_⟩:=hty
      rw [g5] at U;injection U with U;subst U
      rw [g9] at h5;injection h5 with h5;subst h5
      exact ⟨c.cells.toList,GT,ES (AM.mono (Mem.empty_le I) _ _ h6) h8⟩
     |slice e sz b=>
      obtain ⟨i,j',c',U,h2,h3,h4,h5,h6,h7,h8,_⟩:=hty
      rw [g5] at U;injection U with U;subst U
      rw [g9] at h4;injection h4 with h4;subst h4
      exact ⟨_,rfl,ES (J3 h8 _ (.inl rfl)) rfl⟩
    obtain ⟨vs,hv,hzr⟩:=hz
    have hsz:vs.length=j.size:=by rw [hv,List.size_toArray] at g10;omega
    have hmade:(madeCells c.cells (n.toNat*j.size))=((List.replicate n.toNat vs).flatten).toArray:=by
     apply Array.ext'
     rw [hv,<-hsz,iF]
    have r1:=h.Lp (Ao.rep hzr n.toNat) el
    rw [<-hmade] at r1
    refine AL (β':=β) hK (hex _ _ (by rw [hl,hm];exact hrun _ _)) r1 (A2.of ?_) (k _ _ (DF h.s) rfl)
    simp only [AM]
    simp_all
   simp_all
 simp_all
def Plain (P : Program) (f : FuncId) : Prop := ∃ fn, P.funcs[f]? = some fn /\ fn.body.isSome = true /\ (fn.name == "runtime.NumGoroutine") = false
theorem cQ {c:Call} {f:Operand} (hT:G4 P T) (hC:∀f args st R,C f args st R->CE P f args st R/\Plain P f) (hK:CA D I0 st0 w0 β env.Bs a o.dst next K) (h:Rel D I0 st0 w0 I β env st a w) (ho:o.op=.call c) (hc:c.callee=.value f)
 (k:match env.eval f with
   | .func f a cap=>aW T env c.argTypes.toList c.args.toList λvs=>F3 (a++(vs++cap)) λvs=>C f vs st λr st'=>match r with
     | .ret v=>v.back λv=>K v env st'
     | .B1 v=>Q (.B1 v) env st'
   |_=>False):o.wp P a w next (Ca D I0 st0 w0 Q):=by
 have hf:=h.f.eval f
 split at k
 .rename_i fid fa cap he
  rw [he] at hf
  have hf':AM I (.func fid fa cap) (a.eval f):=hf
  simp only [AM] at hf'
  obtain ⟨az,cs,e,h1,h2⟩:=hf'
  obtain ⟨vs,h3,k⟩:=RQ hT h.f k
  have k:=A9.1 k
  obtain ⟨U,fn,p1,p2,p3⟩:=hC _ _ _ _ k
  have U:=U I w (az++(c.args.toList.map a.eval++cs)) h.s (Ao.append h1 (Ao.append h3 h2))
  have harr:(az++(c.args.toList.map a.eval++cs)).toArray=az.toArray++(c.args.map a.eval)++cs.toArray:=by
   apply Array.ext';simp
  rw [harr] at U
  have hrun:(execOp a.eval o).run P w=.ok (.enter fid (az.toArray++(c.args.map a.eval)++cs.toArray)) w:=by
   have hb:fn.body.isNone=false:=by cases hb:fn.body<;>simp_all
   simp only [execOp,ho,resolve,hc,e,Deferred.ofValue,Sem.run_bind,Sem.run_pure,Result.andThen_ok,invoke,callFunc,run_program,p1]
   rw [p3]
   simp [hb]
  unfold Oper.wp
  rw [hrun]
  refine U.mono λe w' ⟨I1,st1,r,q1,q2,q3,q4⟩=>?_
  have h':=h.called q1 q2
  cases e with
  |returned v=>
   cases r with
   |ret r=>exact hK _ _ _ _ _ _ _ h' (A2.of q3) (λ_ _=>rfl) (V.Rm.1 q4)
   |B1 r=>exact q3.elim
  |panicked chain=>
   cases r with
   |ret r=>exact q3.elim
   |B1 r=>exact ⟨I1,β,env,st1,.B1 r,h',q3,q4⟩
  |outgrown=>cases r<;>exact q3.elim
 simp_all
theorem qS {b:Bool} {K:V->Prop} (h:Bn b (K (.bool true)) (K (.bool false))):K (.bool b):=by
 cases b<;>first|exact A8.1 h|exact Bg.1 h
theorem v7 {b:Bool} {K:V->Prop} (h:Bn b (K (.bool false)) (K (.bool true))):K (.bool (!b)):=by
 cases b<;>first|exact A8.1 h|exact Bg.1 h
theorem RO {P:Program} {w:World} {d:Nat}:∀{z xs ys:List V} {cx cy:List Value} {b:Bool} {fs:List Field} {k:Nat} {px py:List Value},rQ z xs ys=some b->Ao I xs cx->Ao I ys cy->px.length=k->py.length=k->
 fs.length = z.length -> (∀ (i : Nat) (f : Field) (v : V), fs[i]? = some f -> z[i]? = some v -> f.name ≠ "_" /\ f.offset = k + i /\ P.plainKey f.type = true /\ match v, P.underlying f.type with
  | .int _ _,some (.int _)=>True
  | .str _,some .string=>True
  | .bool _,some .bool=>True
  |_,_=>False)->
 (Op.eqFields (d+1) (px++cx).toArray (py++cy).toArray fs).run P w=.ok b w
 |[],xs,ys,cx,cy,b,fs,k,px,py,h,h1,h2,hx,hy,hl,hf=>by
  have:fs=[]:=List.eq_nil_of_length_eq_zero AC
  subst this
  cases xs with
  |cons _ _=>cases h
  |nil=>
   cases ys with
   |cons _ _=>cases h
   |nil=>
    have:b=true:=by
     have h:some true=some b:=h
     cases h;rfl
    subst this
    rfl
 |z0::zr,xs,ys,cx,cy,b,fs,k,px,py,h,h1,h2,hx,hy,hl,hf=>by
  cases fs with
  |nil=>grind
  |cons f fr=>
   rw [gP] at h
   split at h
   .rename_i x xr y yr
    simp only [Ao] at h1 h2
    obtain ⟨c1,s1,rfl,r1,t1⟩:=h1
    obtain ⟨c2,s2,rfl,r2,t2⟩:=h2
    split at h
    .rename_i a a' U ha'
     cases h
     obtain ⟨g1,g2,g3,g4⟩:=hf 0 f z0 rfl rfl
     rw [Nat.add_zero] at g2
     have p1:(part f.type (px++c1::s1).toArray f.offset).run P w=.ok c1 w:=run_part_plain _ g3 i7
     have p2:(part f.type (py++c2::s2).toArray f.offset).run P w=.ok c2 w:=run_part_plain _ g3 i7
     have pe:(Op.equalIn (d+1) f.type c1 c2).run P w=.ok a w:=by
      unfold ll at U
      split at U
      .simp only [AM] at r1 r2
       subst r1;subst r2
       obtain ⟨k0,hu⟩:∃k0,P.underlying f.type=some (.int k0):=by grind
       rename_i k1 a1 k2 b1
       by_cases hk:k1=k2
       .subst hk
        simp only [decide_true,cond_true,Option.some.injEq] at U
        subst U
        exact run_equalIn_int w d f.type _ _ _ _ hu
       simp_all
      .simp only [AM] at r1 r2
       obtain ⟨rfl,_⟩:=r1
       obtain ⟨rfl,_⟩:=r2
       have hu:P.underlying f.type=some .string:=by
        cases hu:P.underlying f.type with
        |none=>simp_all
        |some u=>grind
       cases U
       rw [run_equalIn_string w d f.type _ _ hu]
       simp_all
      .simp only [AM] at r1 r2
       subst r1;subst r2
       have hu:P.underlying f.type=some .bool:=by
        cases hu:P.underlying f.type with
        |none=>simp_all
        |some u=>grind
       cases U
       exact run_equalIn_bool w d f.type _ _ hu
      .cases U
     have ih:=RO (P:=P) (w:=w) (d:=d) (fs:=fr) (k:=k+1) (px:=px++[c1]) (py:=py++[c2]) ha' t1 t2 (by simp [hx]) (by simp [hy]) i7 (λi f' v e1 e2=>by
      obtain ⟨q1,q2,q3,q4⟩:=hf (i+1) f' v i7 i7
      grind)
     simp only [Op.eqFields,ne_eq,g1,not_false_eq_true,if_true,Sem.run_bind,p1,p2,pe,Result.andThen_ok]
     cases a with
     |false=>simp
     |true=>
      simp_all
    grind
   grind
theorem U8 {op:BinOp} {t:TypeId} {xs:List V} {y:V} {U cy:Value} {K:V->Prop} (hT:G4 P T) (h1:A2 I β (.agg xs) U) (h2:A2 I β y cy) (ox oy:Operand) (k:U7 op (assoc T t) xs y K):
 ∃v c,(do eqGuard op t ox oy U cy;binOp op t U cy:Sem Value).run P w=.ok c w/\AM I v c/\K v:=by
 unfold U7 at k
 split at k
 .rename_i offs z ys ht
  obtain ⟨hfl,k⟩:=As.1 k
  split at k
  .rename_i b hb
   obtain ⟨i0,fields,zs,g1,g2,g3,g4,g5,g6,g7,g8,_⟩:=hT t _ ht
   have he:=g8 hfl
   unfold dU at he
   rw [g2] at he
   simp only [Bool.and_eq_true,Bool.not_eq_true',List.all_eq_true,List.mem_range,beq_iff_eq] at he
   obtain ⟨⟨e1,e2⟩,e3,e4⟩:=he
   have h1:AM I (.agg xs) U:=h1
   have h2:AM I (.agg ys) cy:=h2
   simp only [AM] at h1 h2
   obtain ⟨vx,rfl,r1⟩:=h1
   obtain ⟨vy,rfl,r2⟩:=h2
   have hfo:P.underlying t=some (.struct (P.fieldsOf t)):=by rw [g2];simp [Program.fieldsOf,g2]
   have hft:P.fieldsOf t=fields:=by simp [Program.fieldsOf,g2]
   have key:(Op.eqFields 9999 ([]++vx).toArray ([]++vy).toArray fields.toList).run P w=.ok b w:=RO (d:=9998) (k:=0) hb r1 r2 rfl rfl AC (λi f v q1 q2=>by grind)
   rw [List.nil_append,List.nil_append] at key
   have heq:(Op.equalIn 10000 t (.agg vx.toArray) (.agg vy.toArray)).run P w=.ok b w:=by
    rw [run_equalIn_struct w 9999 t _ _ hfo e1,hft];exact key
   have hg:=run_eqGuard_agg (P:=P) w op t ox oy vx.toArray vy.toArray e2
   cases op<;>try exact k.elim
   case eql=>exact ⟨.bool b,.bool b,by simp only [Sem.run_bind,hg,Result.andThen_ok,run_eql_struct,heq],H1,qS (K:=K) k⟩
   case neq=>exact ⟨.bool (!b),.bool (!b),by simp only [Sem.run_bind,hg,Result.andThen_ok,run_neq_struct,heq],H1,v7 (K:=K) k⟩
  simp_all
 simp_all
theorem P2 {d:Nat} {t u:TypeId} {U:Array (String×TypeId)} {c:Value} (h:P.underlying t=some (.interface U)):(Op.equalIn (d+1) t (.iface u c) .nilIface).run P w=.ok false w:=by
 simp [Op.equalIn,Az h]
theorem P3 {d:Nat} {t:TypeId} {U:Array (String×TypeId)} (h:P.underlying t=some (.interface U)):(Op.equalIn (d+1) t .nilIface .nilIface).run P w=.ok true w:=by
 simp [Op.equalIn,Az h]
theorem P4 {t:TypeId} {c:Value} (U:c=.nilIface\/∃u x,c=.iface u x):(binOp .eql t c .nilIface).run P w=((Op.equalIn 10000 t c .nilIface).run P w).andThen λb w'=>.ok (.bool b) w':=by
 rcases U with rfl|⟨u,x,rfl⟩<;>(simp only [binOp];simp [Op.equal,Op.maxDepth])
theorem P6 {t:TypeId} {c:Value} (U:c=.nilIface\/∃u x,c=.iface u x):(binOp .neq t c .nilIface).run P w=((Op.equalIn 10000 t c .nilIface).run P w).andThen λb w'=>.ok (.bool (!b)) w':=by
 rcases U with rfl|⟨u,x,rfl⟩<;>(simp only [binOp];simp [Op.equal,Op.maxDepth])
theorem WT {op:BinOp} {t:TypeId} {v:V} {cx:Value} {K:V->Prop} (hT:G4 P T) (U:A2 I β v cx) (ox:Operand) (k:MG op (assoc T t) v K):
 ∃v c,(do eqGuard op t ox (.const .nilIface) cx .nilIface;binOp op t cx .nilIface:Sem Value).run P w=.ok c w/\AM I v c/\K v:=by
 have guard:∀{c:Value},(c=.nilIface\/∃u x,c=.iface u x)->(eqGuard op t ox (.const .nilIface) c .nilIface).run P w=.ok () w:=by
  rintro c (rfl|⟨u,x,rfl⟩)
  .cases op<;>simp [eqGuard]
  .cases op<;>simp [eqGuard]
 unfold MG at k
 split at k
 .rename_i ht
  obtain ⟨i0,d,c,g1,g2,g3,g4,g5,g6,g7,g8,g9,ms,g10⟩:=hT t _ ht
  subst g10
  split at k
  .have U:cx=.nilIface:=by have:=U;simpa only [A2,AM] using this
   subst U
   exact ⟨.bool true,.bool true,by simp only [Sem.run_bind,guard (.inl rfl),Result.andThen_ok,P4 (.inl rfl),P3 (d:=9999) g2],H1,k⟩
  .rename_i t' v'
   have U:AM I (.iface t' v') cx:=U
   simp only [AM] at U
   obtain ⟨c',rfl,_⟩:=U
   exact ⟨.bool false,.bool false,by simp only [Sem.run_bind,guard (.inr ⟨_,_,rfl⟩),Result.andThen_ok,P4 (.inr ⟨_,_,rfl⟩),P2 (d:=9999) g2],H1,k⟩
  .have U:cx=.nilIface:=by have:=U;simpa only [A2,AM] using this
   subst U
   exact ⟨.bool false,.bool false,by simp only [Sem.run_bind,guard (.inl rfl),Result.andThen_ok,P6 (.inl rfl),P3 (d:=9999) g2,Bool.not_true],H1,k⟩
  .rename_i t' v'
   have U:AM I (.iface t' v') cx:=U
   simp only [AM] at U
   obtain ⟨c',rfl,_⟩:=U
   exact ⟨.bool true,.bool true,by simp only [Sem.run_bind,guard (.inr ⟨_,_,rfl⟩),Result.andThen_ok,P6 (.inr ⟨_,_,rfl⟩),P2 (d:=9999) g2,Bool.not_false],H1,k⟩
  simp_all
 simp_all
theorem Zx {d n m:Nat} {t e:TypeId} {U:Addr} (h:P.underlying t=some (.slice e)):(Op.equalIn (d+1) t (.slice (some U) n m) (.slice none 0 0)).run P w=.ok false w:=by
 simp [Op.equalIn,Az h]
theorem Zy {d n m:Nat} {t e:TypeId} (h:P.underlying t=some (.slice e)):(Op.equalIn (d+1) t (.slice none n m) (.slice none 0 0)).run P w=.ok true w:=by
 simp [Op.equalIn,Az h]
theorem Y6 {op:BinOp} {t:TypeId} {v:V} {U:Value} {K:V->Prop} (hT:G4 P T) (h1:A2 I β v U) (ox:Operand) (k:SQ op (assoc T t) v K):
 ∃v c,(do eqGuard op t ox (.const (.slice none 0 0)) U (.slice none 0 0);binOp op t U (.slice none 0 0):Sem Value).run P w=.ok c w/\AM I v c/\K v:=by
 unfold SQ at k
 split at k
 .rename_i e sz bs ht
  obtain ⟨i0,j0,c0,g1,g2,_⟩:=hT t _ ht
  have main:∀{sz es own},AM I (.slice sz es own) U->∃b:Bool,(b=true->es=[])/\(Op.equalIn 10000 t U (.slice none 0 0)).run P w=.ok b w/\(∃a n m,U=.slice a n m):=by
   intro sz es own h
   simp only [AM] at h
   obtain ⟨ad,cap,rfl,q1,q2,q3,q4,q5⟩:=h
   cases ad with
   |none=>
    refine ⟨true,λ_=>?_,Zy (d:=9999) g2,_,_,_,rfl⟩
    simp_all
   |some ad=>exact ⟨false,(λx=>by cases x),Zx (d:=9999) g2,_,_,_,rfl⟩
  split at k
  .rename_i es own
   obtain ⟨b,q1,q2,a,n,m,rfl⟩:=main (show AM I (.slice _ _ _) U from h1)
   refine ⟨.bool b,.bool b,?_,H1,k b q1⟩
   simp only [Sem.run_bind,eqGuard,binOp,Op.equal,Op.maxDepth,Sem.run_pure,Result.andThen_ok]
   simp [q2]
  .rename_i es own
   obtain ⟨b,q1,q2,a,n,m,rfl⟩:=main (show AM I (.slice _ _ _) U from h1)
   refine ⟨.bool (!b),.bool (!b),?_,H1,k (!b) (λx=>q1 i7)⟩
   simp only [Sem.run_bind,eqGuard,binOp,Op.equal,Op.maxDepth,Sem.run_pure,Result.andThen_ok]
   simp [q2]
  simp_all
 simp_all
theorem Zv {d:Nat} {t:TypeId} {a b:Bool} (h:P.underlying t=some .bool):(Op.equalIn (d+1) t (.bool a) (.bool b)).run P w=.ok (a==b) w:=by
 simp [Op.equalIn,Az h]
theorem TN {op:BinOp} {t:TypeId} {a:Bool} {y:V} {cx cy:Value} {K:V->Prop} (hT:G4 P T) (h1:A2 I β (.bool a) cx) (h2:A2 I β y cy) (ox oy:Operand) (k:Qy op (assoc T t) a y K):
 ∃v c,(do eqGuard op t ox oy cx cy;binOp op t cx cy:Sem Value).run P w=.ok c w/\AM I v c/\K v:=by
 unfold Qy at k
 split at k
 .rename_i z b ht
  obtain ⟨i0,d0,c0,g1,g2,g3,g4,g5,g6,g7,g8,g9,U⟩:=hT t _ ht
  have U:d0=.bool:=U
  subst U
  have e1:cx=.bool a:=by have:=h1;simpa only [A2,AM] using this
  have e2:cy=.bool b:=by have:=h2;simpa only [A2,AM] using this
  subst e1;subst e2
  have q:=Zv (P:=P) (w:=w) (d:=9999) (a:=a) (b:=b) g2
  split at k
  .refine ⟨.bool (a==b),.bool (a==b),?_,H1,?_⟩
   .simp only [Sem.run_bind,eqGuard,binOp,Op.equal,Op.maxDepth,Sem.run_pure,Result.andThen_ok]
    simp [q]
   .cases a<;>cases b<;>first
     |exact Bg.1 (Bg.1 k)|exact Bg.1 (A8.1 k)|exact A8.1 (Bg.1 k)|exact A8.1 (A8.1 k)
  .refine ⟨.bool (!(a==b)),.bool (!(a==b)),?_,H1,?_⟩
   .simp only [Sem.run_bind,eqGuard,binOp,Op.equal,Op.maxDepth,Sem.run_pure,Result.andThen_ok]
    simp [q]
   .cases a<;>cases b<;>first
     |exact Bg.1 (Bg.1 k)|exact Bg.1 (A8.1 k)|exact A8.1 (Bg.1 k)|exact A8.1 (A8.1 k)
  simp_all
 simp_all
theorem TU {y:Operand} (h:isNilIface y=true):y=.const .nilIface:=by
 unfold isNilIface at h
 grind
theorem jk {op:BinOp} {t u:TypeId} {x y:Operand} (hT:G4 P T) (hK:CA D I0 st0 w0 β env.Bs a o.dst next K) (h:Rel D I0 st0 w0 I β env st a w) (ho:o.op=.binOp op t x y u)
 (k:match isNilIface y with
 |true=>MG op (assoc T t) (env.eval x) λv=>K v env st
 |false=>match Gs y with
  |true=>SQ op (assoc T t) (env.eval x) λv=>K v env st
  |false=>gb op (assoc T t) (env.eval x) (env.eval y) λv=>K v env st):o.wp P a w next Qc:=by
 have fin:(∃v c,(do eqGuard op t x y (a.eval x) (a.eval y);binOp op t (a.eval x) (a.eval y):Sem Value).run P w=.ok c w/\AM I v c/\K v env st)->o.wp P a w next Qc:=by
  rintro ⟨v,c,h1,h2,h3⟩
  refine AL hK (c:=c) (w':=w) ?_ h (A2.of h2) h3
  simp only [execOp,ho,Sem.run_bind] at h1 |-
  rw [h1];rfl
 split at k
 .rename_i hy
  have hy:=TU hy
  subst hy
  exact fin (WT hT (h.f.eval x) x k)
 split at k
 .rename_i hy
  have hy:=L5 hy
  subst hy
  exact fin (Y6 hT (h.f.eval x) x k)
 .unfold gb at k
  split at k
  .rename_i xs hx
   have U:=h.f.eval x
   rw [hx] at U
   exact fin (U8 hT U (h.f.eval y) x y k)
  .rename_i b hx
   have U:=h.f.eval x
   rw [hx] at U
   exact fin (TN hT U (h.f.eval y) x y k)
  .exact fin (gi (B:=0) (h.f.eval x) (h.f.eval y) t x y k)
theorem UE {t:TypeId} {ty:Ty} (hT:G4 P T) (ht:assoc T t=some ty) (hn:ty≠.sc .Dt):∃(i:TypeInfo) (d:TypeDesc) (c:Value),P.info? t=some i/\P.underlying t=some d/\(∀ms,d≠.interface ms)/\i.zero=some c/\AM Mem.empty ty.zero c:=by
 have U:=hT t ty ht
 cases ty with
 |struct offs z=>
  obtain ⟨i,fields,zs,h1,h2,h3,h4,h5,_⟩:=U
  exact ⟨i,_,_,h1,h2,(λms e=>by cases e),h4,by simp only [Ty.zero,AM];simp_all⟩
 |arr offs z=>
  obtain ⟨i,n,e,j,zs,h1,h2,h3,h4,h5,_⟩:=U
  exact ⟨i,_,_,h1,h2,(λms e=>by cases e),h4,by simp only [Ty.zero,AM];simp_all⟩
 |slice e sz b=>
  obtain ⟨i,j,c,h1,h2,h3,h4,h5,h6,h7,h8,_⟩:=U
  exact ⟨i,_,_,h1,h2,(λms e=>by cases e),h4,J3 h8 _ (.inl rfl)⟩
 |sc z=>
  obtain ⟨i,d,c,h1,h2,h3,h4,h5,h6,h7,h8,h9,h10⟩:=U
  refine ⟨i,d,c,h1,h2,?_,h5,h6⟩
  grind
theorem LV {t:TypeId} {x:Operand} (U:G4 P T) (hK:CA D I0 st0 w0 β env.Bs a o.dst next K) (h:Rel D I0 st0 w0 I β env st a w) (ho:o.op=.makeInterface t x)
 (k:match assoc T t with
 |some (.sc .Dt)=>False
 |some _=>(env.Bu T t x).force λv=>DM v.known (K (.iface t v) env st)
 |none=>False):o.wp P a w next Qc:=by
 split at k
 .simp_all
 .rename_i ty hn ht
  obtain ⟨hk,k⟩:=As.1 (V.AJ.1 k)
  obtain ⟨i,d,c,h1,h2,h3,_⟩:=UE U ht (λe=>hn (by rw [e]))
  have hv:=(h.f.Bu U t x).rep (FI hk)
  refine AL hK (c:=.iface t (a.eval x)) (w':=w) (v:=.iface t (env.Bu T t x)) ?_ h (A2.of (by simp only [AM];simp_all)) k
  have:(underlying t).run P w=.ok d w:=Az h2
  simp only [execOp,ho,Instr.makeInterface,Sem.run_bind,this,Result.andThen_ok]
  rfl
 simp_all
theorem Pb {x:Operand} {t' t:TypeId} {ok:Bool} (hT:G4 P T) (hK:CA D I0 st0 w0 β env.Bs a o.dst next K) (h:Rel D I0 st0 w0 I β env st a w) (ho:o.op=.typeAssert x t' t ok)
 (k:match assoc T t with
 |some (.sc .Dt)=>False
 |some ty=>match env.eval x with
  | .iface t' v=>bif Nat.beq t' t then DM v.known (bif ok then K (.Bp [v,.bool true]) env st else v.force λv=>K v env st) else DM ok (K (.Bp [ty.zero,.bool false]) env st)
  | .Dt=>DM ok (K (.Bp [ty.zero,.bool false]) env st)
  |_=>False
 |none=>False):o.wp P a w next Qc:=by
 split at k
 .simp_all
 .rename_i ty hn ht
  obtain ⟨i,d,c,h1,h2,h3,h4,h5⟩:=UE hT ht (λe=>hn (by rw [e]))
  have hu:(underlying t).run P w=.ok d w:=Az h2
  have hx:=h.f.eval x
  have U:DM ok (K (.Bp [ty.zero,.bool false]) env st)->∀st' dy m,(execOp a.eval o).run P w=(do let v <-(if ok then (do pure (.tuple #[<-zeroValue t,.bool false]):Sem Value) else runtimePanic (.typeAssertion st' dy t m));pure (Next.value v):Sem Next).run P w->o.wp P a w next Qc:=by
   intro k st' dy m hr
   obtain ⟨hok,k⟩:=As.1 k
   subst hok
   refine AL hK (c:=.tuple #[c,.bool false]) (w':=w) (v:=.Bp [ty.zero,.bool false]) ?_ h (A2.of ?_) k
   .rw [hr]
    simp only [if_true,Sem.run_bind,EB h1 h4,Result.andThen_ok,Sem.run_pure]
   .simp only [AM,Ao]
    exact ⟨[c,.bool false],rfl,_,_,rfl,AM.mono (Mem.empty_le I) _ _ h5,_,_,rfl,rfl,rfl⟩
  split at k
  .rename_i t'' v hv
   rw [hv] at hx
   have hx:AM I (.iface t'' v) (a.eval x):=hx
   simp only [AM] at hx
   obtain ⟨c',hc,hr⟩:=hx
   cases hb:Nat.beq t'' t with
   |true=>
    have:=Nat.eq_of_beq_eq_true hb
    subst this
    rw [hb] at k
    obtain ⟨hk,k⟩:=As.1 k
    cases ok with
    |true=>
     refine AL hK (c:=.tuple #[c',.bool true]) (w':=w) (v:=.Bp [v,.bool true]) ?_ h (A2.of ?_) k
     .simp only [execOp,ho,Instr.typeAssert,Sem.run_bind,hu,Result.andThen_ok,hc]
      rfl
     .simp only [AM,Ao]
      simp_all
    |false=>
     refine AL hK (c:=c') (w':=w) (v:=v) ?_ h (A2.of hr) (V.AJ.1 (show v.force (λv=>K v env st) from k))
     simp only [execOp,ho,Instr.typeAssert,Sem.run_bind,hu,Result.andThen_ok,hc]
     rfl
   |false=>
    rw [hb] at k
    have hne:¬t''=t:=λe=>by simp_all
    refine U k (some t') (some t'') "" ?_
    simp only [execOp,ho,Instr.typeAssert,Sem.run_bind,hu,Result.andThen_ok,hc]
    simp_all
  .rename_i hv
   rw [hv] at hx
   have hc:a.eval x=.nilIface:=by have:=hx;simpa only [A2,AM] using this
   refine U k (some t') none "" ?_
   cases d<;>first|exact absurd rfl (h3 _)|simp [execOp,ho,Instr.typeAssert,hu,hc]
  simp_all
 simp_all
theorem ZM {x:Operand} (h:Rel D I0 st0 w0 I β env st a w) (ho:o.op=.panic x)
 (k:match env.eval x with
 | .iface t v=>Q (.B1 (.iface t v)) env st
 |_=>False):o.wp P a w next (Ca D I0 st0 w0 Q):=by
 split at k
 .rename_i t v hv
  have U:=h.f.eval x
  rw [hv] at U
  have U:AM I (.iface t v) (a.eval x):=U
  have hx':=U
  simp only [AM] at U
  obtain ⟨c',hc,hr⟩:=U
  unfold Oper.wp
  have:(execOp a.eval o).run P w=.halt (.panic (.iface t c')) w:=by
   simp only [execOp,ho,Instr.panic,Sem.run_bind,hc]
   rfl
  rw [this]
  rw [hc] at hx'
  exact ⟨I,β,env,st,.B1 (.iface t v),h,⟨_,rfl,hx'⟩,k⟩
 simp_all
theorem UQ {c:Call} (hK:CA D I0 st0 w0 β env.Bs a o.dst next K) (h:Rel D I0 st0 w0 I β env st a w) (ho:o.op=.call c)
 (k:(c.callee=.builtin .min/\match c.args.toList.map env.eval with
   |[.int k a,.int k' b]=>DM (decide (k=k')) (∃r,r=(if b<a then b else a)/\K (.int k r) env st)
   |_=>False)\/(c.callee=.builtin .max/\match c.args.toList.map env.eval with
   |[.int k a,.int k' b]=>DM (decide (k=k')) (∃r,r=(if a<b then b else a)/\K (.int k r) env st)
   |_=>False)):o.wp P a w next Qc:=by
 obtain ⟨callee,⟨xl⟩,⟨tl⟩⟩:=c
 simp only at k
 have two:∀{p q:V},xl.map env.eval=[p,q]->∃x y,xl=[x,y]/\env.eval x=p/\env.eval y=q:=by
  intro p q hx
  match xl,hx with
  |[x,y],hx=>
   grind
 rcases k with ⟨hc,k⟩|⟨hc,k⟩
 .subst hc
  split at k
  .rename_i k1 m k2 n hx
   obtain ⟨x,y,rfl,q1,q2⟩:=two hx
   obtain ⟨hk,r,rfl,k2⟩:=As.1 k
   have hk:=of_decide_eq_true hk
   subst hk
   have U:=h.f.eval x
   have e2:=h.f.eval y
   rw [q1] at U
   rw [q2] at e2
   have U:a.eval x=.int k1 m:=by have:=U;simpa only [A2,AM] using this
   have e2:a.eval y=.int k1 n:=by have:=e2;simpa only [A2,AM] using this
   refine AL hK (c:=.int k1 (if n<m then n else m)) (w':=w) ?_ h (A2.of (v:=.int k1 _) H1) k2
   simp [execOp,ho,resolve,invoke,builtin,Builtin.min_,Builtin.min2,U,e2]
  simp_all
 .subst hc
  split at k
  .rename_i k1 m k2 n hx
   obtain ⟨x,y,rfl,q1,q2⟩:=two hx
   obtain ⟨hk,r,rfl,k2⟩:=As.1 k
   have hk:=of_decide_eq_true hk
   subst hk
   have U:=h.f.eval x
   have e2:=h.f.eval y
   rw [q1] at U
   rw [q2] at e2
   have U:a.eval x=.int k1 m:=by have:=U;simpa only [A2,AM] using this
   have e2:a.eval y=.int k1 n:=by have:=e2;simpa only [A2,AM] using this
   refine AL hK (c:=.int k1 (if m<n then n else m)) (w':=w) ?_ h (A2.of (v:=.int k1 _) H1) k2
   simp [execOp,ho,resolve,invoke,builtin,Builtin.max_,Builtin.max2,U,e2]
  simp_all
theorem Xs {t:TypeId} {x hi mx:Operand} {lo:Option Operand} (hT:G4 P T) (hK:CA D I0 st0 w0 β env.Bs a o.dst next K) (h:Rel D I0 st0 w0 I β env st a w) (ho:o.op=.slice t x lo (some hi) (some mx))
 (k:match assoc T t,env.eval x with
 |some (.slice _ sz' _),.slice sz es _=>
  match (lo.map env.eval).getD (.int .i64 0),env.eval hi,env.eval mx with
  | .int _ l,.int _ h,.int _ m=>DM (Nat.beq sz' sz) ((0<=l/\l<=h/\h=m/\m<=es.length)/\∀es',es'=(es.take h.toNat).drop l.toNat->K (.slice sz es' .full) env st)
  |_,_,_=>False
 |_,_=>False):o.wp P a w next Qc:=by
 have hx:=h.f.eval x
 split at k
 .rename_i el sz' by' sz es own ht hex
  rw [hex] at hx
  split at k
  .rename_i kl l kh U km m hel heh hem
   obtain ⟨hsz,⟨h0,h1,h2,h3⟩,k1⟩:=As.1 k
   clear k
   have k1:=k1 _ rfl
   subst h2
   have hsz:=Nat.eq_of_beq_eq_true hsz
   subst hsz
   obtain ⟨ad,cap,e1,e2,e3,e4,e5,e6⟩:=Gy hx
   obtain ⟨i0,j,c,g1,g2,g3,g4,g5,g6,g7,g8,_⟩:=hT t _ ht
   have q1:=h.f.eval hi
   have q2:=h.f.eval mx
   rw [heh] at q1
   rw [hem] at q2
   have q1:a.eval hi=.int kh U:=by have:=q1;simpa only [A2,AM] using this
   have q2:a.eval mx=.int km U:=by have:=q2;simpa only [A2,AM] using this
   have hlo:∀x,lo=some x->a.eval x=.int kl l:=λx e=>by
    subst e
    simp only [Option.map_some,Option.getD_some] at hel
    have:=h.f.eval x
    rw [hel] at this
    exact GP this
   have b1:∀code:BoundsCode,(Instr.sliceBound (.int km U) cap code).run P w=.ok U.toNat w:=λcode=>Jp ⟨AC,AC⟩
   have b2:∀code:BoundsCode,(Instr.sliceBound (.int kh U) U.toNat code).run P w=.ok U.toNat w:=λcode=>Jp ⟨AC,AC⟩
   have b3:∀code:BoundsCode,(Instr.sliceBound (.int kl l) U.toNat code).run P w=.ok l.toNat w:=λcode=>Jp ⟨AC,AC⟩
   have hb:(Instr.sliceBounds true es.length cap (lo.map a.eval) (some (a.eval hi)) (some (a.eval mx))).run P w=.ok (l.toNat,U.toNat,U.toNat) w:=by
    cases lo with
    |none=>
     simp only [Option.map_none,Option.getD_none,V.int.injEq] at hel
     obtain ⟨_,rfl⟩:=hel
     simp only [Instr.sliceBounds,Option.map_none,q1,q2,Sem.run_bind,Sem.run_pure,Result.andThen_ok,b1,b2]
     rfl
    |some x=>
     simp only [Instr.sliceBounds,Option.map_some,hlo x rfl,q1,q2,Sem.run_bind,Sem.run_pure,Result.andThen_ok,b1,b2,b3]
   have hlen:((es.take U.toNat).drop l.toNat).length=U.toNat - l.toNat:=UV
   refine AL hK (c:=.slice (if U.toNat=l.toNat then ad else ad.map (·.add (l.toNat*sz'))) (U.toNat - l.toNat) (U.toNat - l.toNat)) (w':=w) ?_ h (A2.of ?_) k1
   .have hu:(underlying t).run P w=.ok (.slice el) w:=Az g2
    simp only [execOp,ho,Instr.sliceAt,Option.map_some,Sem.run_bind,hu,Result.andThen_ok,Instr.slice,e1,hb,Ce g5,g6,Sem.run_pure]
   .simp only [AM]
    refine ⟨_,U.toNat - l.toNat,by rw [hlen],AC,AC,e4,by rw [hlen];rfl,?_⟩
    cases ad with
    |none=>
     simp_all
    |some ad=>
     simp only at e6
     obtain ⟨s1,s2⟩:=e6
     split
     .grind
     .rename_i ad' hc
      split at hc
      .rename_i hcap
       injection hc with hc
       subst hc
       refine ⟨.inl AC,?_⟩
       have:(es.take U.toNat).drop l.toNat=[]:=List.eq_nil_of_length_eq_zero AC
       rw [this];simp only [Cq]
      .simp only [Option.map_some,Option.some.injEq] at hc
       subst hc
       rename_i hne
       obtain ⟨b,off,spot⟩:=ad
       obtain rfl:spot=none:=s1.resolve_left AC
       rw [CH]
       exact ⟨.inr rfl,Cq.drop _ (Cq.take _ s2)⟩
  simp_all
 simp_all
theorem NY (hT:G4 P T) (hC:∀f args st R,C f args st R->CE P f args st R/\Plain P f) (hK:CA D I0 st0 w0 β env.Bs a o.dst next K) (h:Rel D I0 st0 w0 I β env st a w)
 (k:Gj T C o env st K Q):o.wp P a w next (Ca D I0 st0 w0 Q):=by
 cases U:o.op<;>simp only [Gj,U] at k<;>try exact k.elim
 case move x=>exact Tj hT hK h (.inl U) k
 case assign x=>exact Tj hT hK h (.inr U) k
 case pick c x y=>exact cT hT hK h U k
 case alloc t=>exact ZI hT hK h U k
 case box t x=>exact jl hT hK h U k
 case build t ps=>exact ZJ hT hK h U k
 case buildSlice t n ps=>exact Pa hT hK h U k
 case load t x=>exact cR hT hK h U k
 case store t x y=>exact P7 hT hK h U k
 case nilCheck x=>exact Tl hK h U k
 case binOp op t x y u=>exact jk hT hK h U k
 case makeInterface t x=>exact LV hT hK h U k
 case typeAssert x t' t ok=>exact Pb hT hK h U k
 case panic x=>exact ZM h U k
 case unOp op t x=>exact cU hK h k U
 case makeFunc fn first cap=>
  cases fn with
  |func f=>exact Ti hK h U k
  |_=>exact k.elim
 case slice t x lo hi mx=>
  cases mx with
  |none=>exact ZO hT hK h U (by grind)
  |some mx=>
   cases hi with
   |none=>simp_all
   |some hi=>exact Xs hT hK h U k
 case fieldAddr t x f=>exact Qo hT hK h U k
 case indexAddr t x i=>exact Qp hT hK h U k
 case index t x i=>exact ZL hT hK h U k
 case extract x i=>exact TZ hK h U k
 case field t x f=>exact ZK hT hK h U k
 case convert t u x=>exact TY hT hK h U k
 case range t x=>exact ZN hT hK h U k
 case makeSlice t l c=>exact Qq hT hK h U k
 case next x b=>
  cases b with
  |true=>exact cS hK h U k
  |false=>simp_all
 case call c=>
  cases hc:c.callee with
  |value f=>rw [hc] at k;exact cQ hT hC hK h U hc k
  |invoke r m=>simp_all
  |builtin b=>
   rw [hc] at k
   cases b
   case len=>exact jm hT hK h U hc k
   case min=>exact UQ hK h U (.inl ⟨hc,k⟩)
   case max=>exact UQ hK h U (.inr ⟨hc,k⟩)
   case append=>
    obtain ⟨callee,⟨xl⟩,⟨tl⟩⟩:=c
    simp only at hc k
    subst hc
    split at k
    .rename_i x y t u
     refine Xr (ty:=o.type) hT hK h (λc w' e=>?_) k
     simp [execOp,U,resolve,invoke,builtin,e]
    simp_all
   all_goals exact k.elim
theorem Cj {v:V} {c:Value} {K:Env->Prop} {d:Option Tmp} (h:Rel D I0 st0 w0 I β env st a w) (U:A2 I β v c) (k:env.go d v K):∃env',Rel D I0 st0 w0 I β env' st (a.put d c) w/\K env':=by
 unfold Env.go at k
 split at k
 .obtain ⟨h1,k⟩:=As.1 k
  exact ⟨_,h.put U i7,k⟩
 .exact ⟨_,h,k⟩
theorem Kf {all:List Oper} {j:Nat} {b:Bool} (h:Rel D I0 st0 w0 I β env st a w) (k:((all[j]?).bind (·.dst)).map env.get=some (.bool b)):yielded all.toArray a.tmps j=some b:=by
 cases hd:(all[j]?).bind (·.dst) with
 |none=>simp_all
 |some t=>
  rw [hd] at k
  simp only [Option.map_some,Option.some.injEq] at k
  have:=h.f.get t
  rw [k] at this
  have:=Jn this
  have hy:yielded all.toArray a.tmps j=match a.tmps[t]? with|some (.bool b)=>some b|_=>none:=by
   simp only [yielded,List.getElem?_toArray]
   rw [hd];rfl
  rw [hy]
  have hs:t<a.tmps.size:=by
   rcases Nat.lt_or_ge t a.tmps.size with hlt|U
   .exact hlt
   .simp [Array.getD,Nat.not_lt.2 U,undef] at this
  simp_all
theorem Iv {all:List Oper} {j:Nat} (h:Rel D I0 st0 w0 I β env st a w) (k:((all[j]?).bind (·.dst)).map env.get=some (.Bp [])):yielded all.toArray a.tmps j=none:=by
 cases hd:(all[j]?).bind (·.dst) with
 |none=>simp_all
 |some t=>
  rw [hd] at k
  simp only [Option.map_some,Option.some.injEq] at k
  have:=h.f.get t
  rw [k] at this
  have U:AM I (.Bp []) (a.tmps.getD t undef):=this
  simp only [AM,Ao] at U
  obtain ⟨vs,U,rfl⟩:=U
  have hy:yielded all.toArray a.tmps j=match a.tmps[t]? with|some (.bool b)=>some b|_=>none:=by
   simp only [yielded,List.getElem?_toArray]
   rw [hd];rfl
  rw [hy]
  cases hs:a.tmps[t]? with
  |none=>rfl
  |some c=>
   simp_all
theorem FK (hT:G4 P T) (hC:∀f args st R,C f args st R->CE P f args st R/\Plain P f) {all:List Oper}:∀{r:List Oper} {I:Mem} {β:Nat->Option Nat} {env:Env} {st:St} {a:Act} {w:World},Rel D I0 st0 w0 I β env st a w->
 Ey T C all Q r env st->wpList P all.toArray (Ca D I0 st0 w0 Q) r a w
 |[],I,β,env,st,a,w,h,k=>⟨I,β,env,st,.normal,h,trivial,k⟩
 |o::r,I,β,env,st,a,w,h,k=>by
  rw [SX] at k
  have yes:∀env st,Gj T C o env st (λv env st=>env.go o.dst v λenv=>Ey T C all Q r env st) Q->∀{I β a w},Rel D I0 st0 w0 I β env st a w->o.wp P a w (wpList P all.toArray (Ca D I0 st0 w0 Q) r) (Ca D I0 st0 w0 Q):=by
   intro env st k I β a w h
   refine NY hT hC (λI β env st v c w h hv _ k=>?_) h k
   obtain ⟨env',h1,h2⟩:=Cj h hv k
   exact FK hT hC h1 h2
  have no:(env.go o.dst (.Bp []) λenv=>Ey T C all Q r env st)->wpList P all.toArray (Ca D I0 st0 w0 Q) r (a.put o.dst undef) w:=by
   intro k
   obtain ⟨env',h1,h2⟩:=Cj h (c:=undef) (A2.of (v:=.Bp []) (by simp only [AM];exact ⟨[],rfl,H1⟩)) k
   exact FK hT hC h1 h2
  unfold Bi at k
  unfold wpList
  cases U:o.guard with
  |none=>
   rw [U] at k
   rw [if_pos (by simp [Region.wanted,U])]
   grind
  |some g=>
   obtain ⟨j,want⟩:=g
   rw [U] at k
   simp only at k
   split at k
   .rename_i b hb
    have hy:=Kf h hb
    have hw:Region.wanted o (yielded all.toArray a.tmps)=(b==want):=by
     simp only [Region.wanted,U,hy]
     cases b<;>cases want<;>rfl
    cases want<;>cases b<;>simp only [cond_true,cond_false,lit] at k
    .grind
    .simp_all
    .simp_all
    grind
   .rename_i hb
    have hy:=Iv h hb
    rw [if_neg (by simp only [Region.wanted,U,hy];simp_all)]
    grind
   simp_all
theorem qF {c:Code} {Q Q':AG->Env->St->Prop} {env:Env} {st:St} (h:AW P c Q env st) (k:∀e env st,Q e env st->Q' e env st):AW P c Q' env st:=
 λD I0 st0 w0 I β a w hr=>wp_mono (h D I0 st0 w0 I β a w hr) λe a w ⟨I,β,env,st,U,h1,h2,h3⟩=>⟨I,β,env,st,U,h1,h2,k _ _ _ h3⟩
theorem K9 {c:Code} {Q:Exit->Act->World->Prop} (R:Nat->Act->World->Prop) {n0:Nat} (h0:R n0 a w)
 (round:∀n a w,R n a w->c.wp P (Exit.then (λa' w'=>∃m,m<n/\R m a' w') Q) a w):(Code.loop c).wp P Q a w:=by
 intro b k cs
 have key:∀n a w,R n a w->
  ∃e a' w',Q e a' w'/\Arrives P (lone (b.at a (.code c::.inLoop c::k)) cs w) b k cs e a' w':=by
  intro n
  induction n using Nat.strongRecOn with
  |_ n ih=>
   intro a w hR
   obtain ⟨e,a₁,w₁,hq,U⟩:=round n a w hR b (.inLoop c::k) cs
   cases e with
   |normal=>
    obtain ⟨m,hm,hR'⟩:=hq
    obtain ⟨e₂,a₂,w₂,hq₂,harr₂⟩:=ih m hm a₁ w₁ hR'
    exact ⟨e₂,a₂,w₂,hq₂,.of_steps (Steps.trans U (.one step_inLoop)) harr₂⟩
   |exit id=>exact ⟨_,a₁,w₁,hq,.pass (x:=.inLoop c) rfl (λ_ _=>.inl GT) U⟩
   |goto l=>exact ⟨_,a₁,w₁,hq,.pass (x:=.inLoop c) rfl (λ_ _=>.inl GT) U⟩
   |ret=>exact ⟨_,a₁,w₁,hq,.pass (x:=.inLoop c) rfl (λ_ _=>.inl GT) U⟩
   |panic ch=>exact ⟨_,a₁,w₁,hq,.pass (x:=.inLoop c) rfl (λ_ _=>.inl GT) U⟩
   |outgrown=>exact ⟨_,a₁,w₁,hq,.pass (x:=.inLoop c) rfl (λ_ _=>.inl GT) U⟩
 obtain ⟨e,a',w',hq,U⟩:=key n0 a w h0
 exact ⟨e,a',w',hq,.of_steps (.one step_loop) U⟩
theorem XM {c:Code} {Q:Exit->Act->World->Prop} (R:Nat->Nat->Act->World->Prop)
 (first:c.wp P (λe a w=>match e with| .goto l=>∃n,R l n a w|e=>Q e a w) a w)
 (pass:∀l n a w,R l n a w->∃rest,findLabel c l=some rest/\rest.wp P (λe a w=>match e with| .goto l=>∃m,m<n/\R l m a w|e=>Q e a w) a w):(Code.scope c).wp P Q a w:=by
 intro b k cs
 have key:∀n l a w rest,R l n a w->findLabel c l=some rest->∃e a' w',Q e a' w'/\Arrives P (lone (b.at a (.code rest::.inScope c::k)) cs w) b k cs e a' w':=by
  intro n
  induction n using Nat.strongRecOn with
  |_ n ih=>
   intro l a w rest hR hf
   obtain ⟨rest',hf',hp⟩:=pass l n a w hR
   rw [hf] at hf'
   cases hf'
   obtain ⟨e,U,w₁,hq,harr⟩:=hp b (.inScope c::k) cs
   cases e with
   |normal=>exact ⟨.normal,U,w₁,hq,Steps.trans harr (.one step_inScope)⟩
   |exit id=>exact ⟨.exit id,U,w₁,hq,λk' hk=>harr k' (by simp [exitTo,hk])⟩
   |goto l'=>
    obtain ⟨m,hm,hR'⟩:=hq
    obtain ⟨rest2,hf2,_⟩:=pass l' m U w₁ hR'
    obtain ⟨e₂,a₂,w₂,hq₂,harr₂⟩:=ih m hm l' U w₁ rest2 hR' hf2
    exact ⟨e₂,a₂,w₂,hq₂,.of_steps (harr _ (by simp [gotoIn,hf2])) harr₂⟩
   |ret=>exact ⟨_,U,w₁,hq,harr⟩
   |panic ch=>exact ⟨_,U,w₁,hq,harr⟩
   |outgrown=>exact ⟨_,U,w₁,hq,harr⟩
 obtain ⟨e,U,w₁,hq,harr⟩:=first b (.inScope c::k) cs
 cases e with
 |normal=>exact ⟨.normal,U,w₁,hq,.head step_scope (Steps.trans harr (.one step_inScope))⟩
 |exit id=>exact ⟨.exit id,U,w₁,hq,λk' hk=>.head step_scope (harr k' (by simp [exitTo,hk]))⟩
 |goto l'=>
  obtain ⟨n,hR⟩:=hq
  obtain ⟨rest,hf,_⟩:=pass l' n U w₁ hR
  obtain ⟨e₂,a₂,w₂,hq₂,harr₂⟩:=key n l' U w₁ rest hR hf
  exact ⟨e₂,a₂,w₂,hq₂,.of_steps (.head step_scope (harr _ (by simp [gotoIn,hf]))) harr₂⟩
 |ret=>exact ⟨_,U,w₁,hq,.of_steps (.one step_scope) harr⟩
 |panic ch=>exact ⟨_,U,w₁,hq,.of_steps (.one step_scope) harr⟩
 |outgrown=>exact ⟨_,U,w₁,hq,.of_steps (.one step_scope) harr⟩
end
section
variable {T:List (Nat×Ty)} {C:FuncId->List V->St->(Au->St->Prop)->Prop} {env env':Env}
theorem Cw {x:Operand} {t:TypeId} (h:env.eval x=env'.eval x):env.Bu T t x=env'.Bu T t x:=by
 unfold Env.Bu
 simp_all
theorem Ln:∀{l:List Operand} {K K':List V->Prop},(∀x ∈ l,env.eval x=env'.eval x)->(∀vs,K vs->K' vs)->XO env l K->XO env' l K'
 |[],K,K',h,k,e=>k _ e
 |x::r,K,K',h,k,e=>by
  rw [Yp] at e |-
  rw [<-h x List.mem_cons_self]
  rw [V.AJ] at e |-
  obtain ⟨U,e2⟩:=As.1 e
  exact AH U (Ln (λy hy=>h y (List.mem_cons_of_mem _ hy)) (λvs=>k _) e2)
theorem RP:∀{l:List Operand} {ts:List TypeId} {K K':List V->Prop},(∀x ∈ l,env.eval x=env'.eval x)->(∀vs,K vs->K' vs)->aW T env ts l K->aW T env' ts l K'
 |[],ts,K,K',h,k,e=>k _ e
 |x::r,ts,K,K',h,k,e=>by
  rw [Um] at e |-
  rw [<-Cw (h x List.mem_cons_self)]
  rw [V.AJ] at e |-
  obtain ⟨U,e2⟩:=As.1 e
  exact AH U (RP (λy hy=>h y (List.mem_cons_of_mem _ hy)) (λvs=>k _) e2)
theorem IB:∀{l:List (Nat×Operand)} {K K':List (Nat×V)->Prop},(∀x ∈ l.map (·.2),env.eval x=env'.eval x)->(∀vs,K vs->K' vs)->Hl env l K->Hl env' l K'
 |[],K,K',h,k,e=>k _ e
 |(i,x)::r,K,K',h,k,e=>by
  rw [Nn] at e |-
  rw [<-h x GT]
  rw [V.AJ] at e |-
  obtain ⟨U,e2⟩:=As.1 e
  exact AH U (IB (λy hy=>h y (List.mem_cons_of_mem _ hy)) (λvs=>k _) e2)
theorem DU {b:Bool} {p q U q':Prop} (h:p->U) (k:q->q'):Bn b p q->Bn b U q':=λ⟨x,y⟩=>⟨λe=>h (x e),λe=>k (y e)⟩
theorem YR {b:Bool} {p q U q':Prop} (h:p->U) (k:q->q'):lit b p q->lit b U q':=by cases b;exact k;exact h
theorem II {cs:List V} {off:Nat} {ty:Option Ty} {K K':V->Prop} (h:∀v,K v->K' v):Dm cs off ty K->Dm cs off ty K':=by
 unfold Dm
 intro e
 obtain ⟨e0,e⟩:=As.1 e
 refine AH e0 ?_
 revert e
 split
 .split
  .exact h _
  .intro e
   obtain ⟨U,e2⟩:=As.1 e
   exact AH U (A9.2 (h _ (A9.1 e2)))
 .split
  .exact h _
  .intro e
   obtain ⟨U,e2⟩:=As.1 e
   exact AH U (A9.2 (h _ (A9.1 e2)))
 .split
  .intro e;exact V.AJ.2 (h _ (V.AJ.1 e))
  grind
 grind
theorem Mr {U:List (Nat×Nat)}:∀{l:List (Nat×V)} {cs:List V} {K K':List V->Prop},(∀v,K v->K' v)->Nr U cs l K->Nr U cs l K'
 |[],cs,K,K',h,e=>A9.2 (h _ (A9.1 e))
 |(i,v)::r,cs,K,K',h,e=>by
  rw [R4] at e |-
  split
  .rename_i o s hx
   rw [hx] at e
   obtain ⟨e1,e⟩:=As.1 e
   obtain ⟨e2,e⟩:=As.1 e
   exact AH e1 (AH e2 (Mr h e))
  simp_all
theorem kW {op:BinOp} {x y:V} {K K':V->Prop} (h:∀v,K v->K' v):bin op x y K->bin op x y K':=by
 unfold bin
 split
 .intro e
  obtain ⟨e1,e⟩:=As.1 e
  refine AH e1 ?_
  cases op<;>first
   |exact e.elim
   |exact DU (h _) (h _) e
   |(obtain ⟨r,U,h2⟩:=e;exact ⟨r,U,h _ h2⟩)
   |(obtain ⟨h0,r,U,h2⟩:=e;exact ⟨h0,r,U,h _ h2⟩)
   |(obtain ⟨h0,U⟩:=e;exact ⟨h0,h _ U⟩)
 .cases op<;>intro e<;>first
   |exact e.elim
   |exact DU (h _) (h _) e
   |(obtain ⟨h0,U⟩:=e;exact ⟨h0,h _ U⟩)
 grind
theorem Y5 {op:BinOp} {ty:Option Ty} {v:V} {K K':V->Prop} (h:∀v,K v->K' v):MG op ty v K->MG op ty v K':=by
 unfold MG
 grind
theorem cp {op:BinOp} {ty:Option Ty} {v:V} {K K':V->Prop} (h:∀v,K v->K' v):SQ op ty v K->SQ op ty v K':=by
 unfold SQ
 grind
theorem gh {op:BinOp} {ty:Option Ty} {x y:V} {K K':V->Prop} (h:∀v,K v->K' v):gb op ty x y K->gb op ty x y K':=by
 unfold gb
 split
 .unfold U7
  split
  .intro e
   obtain ⟨U,e⟩:=As.1 e
   refine AH U ?_
   split at e
   .rename_i b hb
    cases op<;>first|exact DU (h _) (h _) e|exact e.elim
   omega
  grind
 .unfold Qy
  split
  .split
   .exact DU (DU (h _) (h _)) (DU (h _) (h _))
   .exact DU (DU (h _) (h _)) (DU (h _) (h _))
   grind
  grind
 .exact kW h
theorem TK {sz bytes:Nat} {es:List (List V)} {own:AE} {new:List (List V)} {st:St} {K K':V->St->Prop} (h:∀v s,K v s->K' v s):
 Am sz bytes es own new st K->Am sz bytes es own new st K':=by
 unfold Am
 rintro ⟨U,h2,e⟩
 obtain ⟨h3,e⟩:=As.1 e
 refine ⟨U,h2,AH h3 ?_⟩
 grind
theorem Re {sz bytes b n cap:Nat} {new:List (List V)} {st:St} {K K':V->St->Prop} (h:∀v s,K v s->K' v s):
 Hy sz bytes b n cap new st K->Hy sz bytes b n cap new st K':=by
 unfold Hy
 rintro ⟨h1,h2,e⟩
 obtain ⟨h3,h4,cs,h5,h6,e⟩:=As.1 e
 exact ⟨h1,h2,AH h3 ⟨h4,cs,h5,h6,λb' U m hb hm=>h _ _ (e b' U m hb hm)⟩⟩
theorem C5 (hC:∀f args st (R R':Au->St->Prop),(∀r s,R r s->R' r s)->C f args st R->C f args st R') {o:Oper} {st st':St} {K K':V->Env->St->Prop} {Q Q':AG->Env->St->Prop}
 (hq:BT o.op=true) (hs:st'=st\/(Fo o.op=true/\∀b,st.box b=none)) (U:∀x ∈ o.op.operands.toList,env.eval x=env'.eval x) (hb:∀id cs,assoc env.boxes id=some cs->assoc env'.boxes id=some cs)
 (hK:∀v s s',((st'=st/\s'=s)\/(s=st/\s'=st'))->K v env s->K' v env' s') (hQ:∀v s,Q (.B1 v) env s->Q' (.B1 v) env' s):Gj T C o env st K Q->Gj T C o env' st' K' Q':=by
 have hk:∀v,K v env st->K' v env' st':=λv=>hK v st st' (.inr ⟨rfl,rfl⟩)
 cases ho:o.op<;>simp only [Gj,ho,BT,Fo,Op.operands] at* <;>try exact id
 case move x=>
  rw [<-Cw (U x GT)]
  intro e;exact V.AJ.2 (hk _ (V.AJ.1 e))
 case assign x=>
  rw [<-Cw (U x GT)]
  intro e;exact V.AJ.2 (hk _ (V.AJ.1 e))
 case pick c a b=>
  rw [<-U c GT,<-Cw (U a GT),<-Cw (U b GT)]
  split
  .exact YR (λe=>V.AJ.2 (hk _ (V.AJ.1 e))) (λe=>V.AJ.2 (hk _ (V.AJ.1 e)))
  grind
 case alloc t=>cases hq
 case box t x=>cases hq
 case store t x y=>cases hq
 case range t x=>cases hq
 case next x b=>cases hq
 case makeSlice t l c=>cases hq
 case convert t u x=>
  grind
 case load t x=>
  rw [<-U x GT]
  split
  .split
   .rename_i cs hcs
    rw [hb _ _ hcs]
    exact II λv=>hk v
   simp_all
  .rintro ⟨cs,h1,h2⟩
   rcases hs with rfl|⟨_,h0⟩
   .exact ⟨cs,h1,II (λv=>hk v) h2⟩
   simp_all
  .exact II λv=>hk v
  grind
 case nilCheck x=>
  grind
 case fieldAddr t x f=>
  rw [<-U x GT]
  split
  .split
   .intro e;obtain ⟨e1,e⟩:=As.1 e;grind
   grind
  .split
   .intro e;obtain ⟨e1,e⟩:=As.1 e;grind
   grind
  .split
   .intro e;obtain ⟨e1,e⟩:=As.1 e;grind
   grind
  grind
 case binOp op t x y u=>
  rw [<-U x GT,<-U y GT]
  split
  .exact Y5 λv=>hk v
  split
  .exact cp λv=>hk v
  .exact gh λv=>hk v
 case makeInterface t x=>
  rw [<-Cw (U x GT)]
  split
  .exact id
  .intro e
   obtain ⟨e1,e⟩:=As.1 (V.AJ.1 e)
   exact V.AJ.2 (AH e1 (hk _ e))
  grind
 case typeAssert x t' t ok=>
  rw [<-U x GT]
  split
  .exact id
  .split
   .rename_i u v _
    cases Nat.beq u t with
    |true=>
     intro e
     obtain ⟨e1,e⟩:=As.1 e
     refine AH e1 ?_
     cases ok with
     |true=>simp_all
     |false=>
      have e:v.force λv=>K v env st:=e
      show v.force λv=>K' v env' st'
      exact V.AJ.2 (hk _ (V.AJ.1 e))
    |false=>intro e;obtain ⟨e1,e⟩:=As.1 e;simp_all
   .intro e;obtain ⟨e1,e⟩:=As.1 e;simp_all
   grind
  grind
 case panic x=>
  grind
 case field t x f=>
  rw [<-U x GT]
  split
  .split
   .split
    .intro e;exact V.AJ.2 (hk _ (V.AJ.1 e))
    grind
   grind
  grind
 case extract x i=>
  rw [<-U x GT]
  split
  .split
   .intro e;exact V.AJ.2 (hk _ (V.AJ.1 e))
   grind
  grind
 case unOp op t x=>
  rw [<-U x GT]
  split
  .exact YR (hk _) (hk _)
  .simp_all
  grind
 case indexAddr t x i=>
  rw [<-U x GT,<-U i GT]
  split
  .intro e;obtain ⟨e1,h0,x,h1,h2⟩:=As.1 e;simp_all
  .intro e;obtain ⟨e1,h0,h1⟩:=As.1 e;simp_all
  .split
   .split
    .exact hk _
    .exact id
   .exact id
  grind
 case index t x i=>
  grind
 case build t ps=>
  split
  .exact IB (λx hx=>U x AC) λvs=>Mr λv=>hk _
  .exact IB (λx hx=>U x AC) λvs=>Mr λv=>hk _
  grind
 case buildSlice t n ps=>
  split
  .intro e
   obtain ⟨e1,e⟩:=As.1 e
   obtain ⟨e2,e⟩:=As.1 e
   obtain ⟨e3,e⟩:=As.1 e
   refine AH e1 (AH e2 (AH e3 (Ln (λx hx=>U x AC) (λvs e=>?_) e)))
   obtain ⟨e4,e⟩:=As.1 e
   exact AH e4 (Ih.2 (hk _ (Ih.1 e)))
  grind
 case makeFunc fn first cap=>
  cases fn with
  |func f=>
   intro e
   refine Ln (λx hx=>U x i7) (λa e=>?_) e
   exact Ln (λx hx=>U x i7) (λc=>hk _) e
  |_=>exact id
 case slice t x lo hi mx=>
  cases mx with
  |some mx=>
   cases hi with
   |none=>exact id
   |some hi=>
    have h0:env.eval x=env'.eval x:=U x GT
    have h1:lo.map env.eval=lo.map env'.eval:=by
     cases lo with
     |none=>rfl
     |some y=>simp_all
    have h2:env.eval hi=env'.eval hi:=U hi GT
    have h3:env.eval mx=env'.eval mx:=U mx GT
    simp only [<-h0,<-h1,<-h2,<-h3]
    split
    .split
     .intro e;obtain ⟨e1,e2,e3⟩:=As.1 e;simp_all
     grind
    grind
  |none=>
   have h0:env.eval x=env'.eval x:=U x GT
   have h1:lo.map env.eval=lo.map env'.eval:=by
    cases lo with
    |none=>rfl
    |some y=>simp_all
   have h2:hi.map env.eval=hi.map env'.eval:=by
    cases hi with
    |none=>rfl
    |some y=>simp_all
   simp only [<-h0,<-h1,<-h2]
   split
   .split
    .intro e;obtain ⟨e1,e2,e3⟩:=As.1 e;simp_all
    grind
   .grind
   .split
    .intro e;obtain ⟨e1,e2,e3⟩:=As.1 e;simp_all
    grind
   grind
 case call c=>
  have ha:∀x ∈ c.args.toList,env.eval x=env'.eval x:=λx hx=>U x (by
   simp only [Call.operands]
   simp_all)
  have hm:c.args.toList.map env.eval=c.args.toList.map env'.eval:=List.map_congr_left ha
  cases hc:c.callee with
  |invoke r m=>simp_all
  |value f=>
   have hf:env.eval f=env'.eval f:=U f (by simp [Call.operands,hc])
   simp only [hc,<-hf]
   rcases hs with rfl|⟨h0,_⟩
   .split
    .refine RP ha λvs e=>A9.2 (hC _ _ _ _ _ ?_ (A9.1 e))
     rintro (v|v) s e
     .exact V.Rm.2 (hK _ _ _ (.inl ⟨rfl,rfl⟩) (V.Rm.1 e))
     simp_all
    grind
   grind
  |builtin b=>
   cases b<;>simp only [hc]<;>try exact id
   case len=>
    grind
   case min=>
    rw [<-hm]
    split
    .intro e;obtain ⟨e1,r,e2,e3⟩:=As.1 e;simp_all
    grind
   case max=>
    rw [<-hm]
    split
    .intro e;obtain ⟨e1,r,e2,e3⟩:=As.1 e;simp_all
    grind
   case append=>
    obtain ⟨callee,az,ts⟩:=c
    cases hc
    rcases hs with rfl|⟨h0,_⟩
    rotate_left
    .cases h0
    split
    .rename_i x y t u hx ht
     rw [<-Cw (T:=T) (ha x i7),<-Cw (T:=T) (ha y i7)]
     split
     .intro e;obtain ⟨e1,e⟩:=As.1 e;exact AH e1 (TK (λv s=>hK v s s (.inl ⟨rfl,rfl⟩)) e)
     .intro e;obtain ⟨e1,e⟩:=As.1 e;exact AH e1 (Re (λv s=>hK v s s (.inl ⟨rfl,rfl⟩)) e)
     grind
    grind
end
end Go.Aw
