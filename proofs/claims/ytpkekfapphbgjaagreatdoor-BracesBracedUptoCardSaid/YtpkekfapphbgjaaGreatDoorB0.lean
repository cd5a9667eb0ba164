/-
  Parts of a proof: lemmas that the last text uses.
-/
import Derived.Tactics
import Derived.Laws.Cells
import Derived.Shelf.Unicode.DecodeSlow
import Derived.Lib.Space
import Derived.Laws.CopyRow
import Derived.ChangeKeysEq
import Derived.Laws.StructEq
import Derived.Laws.Append
import Derived.Laws.AppendOwn
import Derived.Laws.Strings
set_option linter.unusedVariables false
set_option linter.unusedSimpArgs false
set_option maxHeartbeats 16000000
theorem AC {P:Prop} (h:P:=by omega):P:=h
theorem Do {P:Prop} (h:P:=by decide):P:=h
theorem EQ {P:Prop} (h:P:=by kernel_rfl):P:=h
theorem FS {P:Prop} (h:P:=by assumption):P:=h
theorem GE {P:Prop} (h:P:=by decide +kernel):P:=h
theorem GT {P:Prop} (h:P:=by simp):P:=h
theorem H1 {P:Prop} (h:P:=by rfl):P:=h
theorem H9 {P:Prop} (h:P:=by first|assumption|omega):P:=h
theorem IR {P:Prop} (h:P:=by rw [List.length_drop];omega):P:=h
theorem Nm {P:Prop} (h:P:=by rw [List.length_take];omega):P:=h
theorem Pi {P:Prop} (h:P:=by rw [List.length_singleton];omega):P:=h
theorem PP {P:Prop} (h:P:=by simp only [List.length_append,List.length_cons,List.length_nil];omega):P:=h
theorem RK {P:Prop} (h:P:=by simp only [List.length_append,List.length_cons,List.length_nil]<;>omega):P:=h
theorem So {P:Prop} (h:P:=by dsimp only;omega):P:=h
theorem UV {P:Prop} (h:P:=by simp;omega):P:=h
theorem WF {P:Prop} (h:P:=by first|omega|(dsimp only<;>omega)):P:=h
theorem cb {P:Prop} (h:P:=by first|omega|(simp only [List.length_append,List.length_cons,List.length_nil]<;>omega)|(dsimp only<;>omega)):P:=h
theorem f8 {P:Prop} (h:P:=by first|omega|(simp only [List.length_append,List.length_cons,List.length_nil]<;>omega)):P:=h
theorem i7 {P:Prop} (h:P:=by show 0+_<=_;omega):P:=h
theorem kw {P:Prop} (h:P:=by simp_all):P:=h
namespace Go.Aw
open Go
inductive AA where
 |any|full|tok (b:Nat)
inductive V where
 |BD
 |bool (b:Bool)
 |int (k:IntKind) (n:Int)
 |str (s:List UInt8)
 |agg (cs:List V)
 |Bj (vs:List V)
 |slice (sz:Nat) (es:List (List V)) (own:AA)
 |ptr (b:Nat) (off:Nat)
 |B3 (id:Nat) (off:Nat)
 |FY (e:List V) (off:Nat)
 |DR
 |func (f:FuncId) (first captured:List V)
 |Ar
 |iface (t:TypeId) (v:V)
 |EJ
 |OC (s:List UInt8) (pos:Nat)
 |Fp (sz b n cap:Nat)
 |XX (l:Nat)
def V.cells:V->List V
 | .agg cs=>cs
 |v=>[v]
def V.sc:V->Bool
 | .BD| .agg _| .Bj _| .OC _ _=>false
 |_=>true
def V.plain:V->Bool
 | .B3 _ _=>false
 |_=>true
def V.known:V->Bool
 | .B3 _ _| .BD| .OC _ _=>false
 |_=>true
def V.Jl:V->V
 | .slice sz es _=>.slice sz es .any
 |v=>v
def V.sH:V->V
 | .slice sz es _=>.slice sz es .any
 | .agg cs=>.agg (cs.map V.Jl)
 |v=>v
def V.wk:V->V
 | .slice sz es _=>.slice sz es .any
 | .agg cs=>.agg (cs.map V.Jl)
 | .Bj vs=>.Bj (vs.map V.sH)
 |v=>v
structure St where
 box:Nat->Option (List V)
 hw:Nat->Option Nat
def St.Aa (st:St) (b:Nat) (cs:List V):St:={st with box:=λx=>if x=b then some cs else st.box x}
def St.BB (st:St) (b:Nat) (h:Nat):St:={st with hw:=λx=>if x=b then some h else st.hw x}
def St.Dd (st:St) (b:Nat):St:={st with hw:=λx=>if x=b then none else st.hw x}
def St.fresh (st:St) (b:Nat):Prop:=st.box b=none/\st.hw b=none
def St.le (a b:St):Prop:=(∀x cs,a.box x=some cs->b.box x=some cs)/\∀x h,a.hw x=some h->b.hw x=some h
theorem St.le_refl (a:St):a.le a:=⟨λ_ _ h=>h,λ_ _ h=>h⟩
theorem St.Aj {a b:St} (h:a.le b) {x:Nat} (U:a.box x=none) (cs:List V):a.le (b.Aa x cs):=
 ⟨λy c hy=>by
   simp only [St.Aa]
   split
   .simp_all
   .exact h.1 y c hy,h.2⟩
theorem St.Fb {a b:St} (h:a.le b) {x:Nat} (U:a.hw x=none) (n:Nat):a.le (b.BB x n):=
 ⟨h.1,λy c hy=>by
   simp only [St.BB]
   split
   .simp_all
   .exact h.2 y c hy⟩
theorem St.le_trans {a b c:St} (h:a.le b) (k:b.le c):a.le c:=⟨λx cs U=>k.1 x cs (h.1 x cs U),λx n U=>k.2 x n (h.2 x n U)⟩
inductive Ty where
 |sc (z:V)
 |slice (elem:TypeId) (sz bytes:Nat)
 |struct (offs:List (Nat×Nat)) (zero:List V)
 |arr (offs:List (Nat×Nat)) (zero:List V)
def Ty.zero:Ty->V
 | .sc z=>z
 | .slice _ sz _=>.slice sz [] .full
 | .struct _ z=>.agg z
 | .arr _ z=>.agg z
noncomputable def assoc {α:Type} (l:List (Nat×α)) (t:Nat):Option α:=
 List.rec (motive:=λ_=>Option α) none (λp _ ih=>Bool.rec (motive:=λ_=>Option α) ih (some p.2) (Nat.beq p.1 t)) l
theorem Bf {α:Type} (k:Nat) (v:α) (r:List (Nat×α)) (t:Nat):assoc ((k,v)::r) t=bif Nat.beq k t then some v else assoc r t:=by
 show Bool.rec (motive:=λ_=>Option α) (assoc r t) (some v) (Nat.beq k t)=_
 cases Nat.beq k t<;>rfl
structure Env where
 tmps:List (Nat×V)
 boxes:List (Nat×List V)
 BG:Nat
 sz:Nat
 gl:List Nat
noncomputable def Env.get (e:Env) (t:Nat):V:=match assoc e.tmps t with|some v=>v|none=>.BD
def FA:Operand->Bool
 | .const (.slice none 0 0)=>true
 |_=>false
def Pj:Value->V
 | .bool b=>.bool b
 | .int k n=>.int k n
 | .string ⟨⟨l⟩⟩=>match Nat.blt l.length 4611686018427387904 with|true=>.str l|false=>.BD
 | .nilFunc=>.Ar
 | .nilIface=>.EJ
 | .pointer none=>.DR
 |_=>.BD
noncomputable def Env.eval (e:Env):Operand->V
 | .tmp t=>e.get t
 | .const v=>Pj v
 | .func f=>.func f [] []
 | .global _=>.BD
section
variable (T:List (Nat×Ty))
noncomputable def Env.B4 (e:Env) (t:TypeId) (x:Operand):V:=
 match FA x with
 |true=>match assoc T t with
  |some (.slice _ sz _)=>.slice sz [] .full
  |_=>.BD
 |false=>e.eval x
end
def lit (b:Bool) (p q:Prop):Prop:=match b with|true=>p|false=>q
def Dx (b:Bool) (p:Prop):Prop:=match b with|true=>p|false=>False
theorem AL {b:Bool} {p:Prop} (h:b=true) (k:p):Dx b p:=by subst h;exact k
theorem As {b:Bool} {p:Prop}:Dx b p↔b=true/\p:=by cases b<;>simp [Dx]
inductive Bk (b:Bool) (p q:Prop):Prop where
 |mk:(b=true->p)->(b=false->q)->Bk b p q
theorem Wk {b:Bool} {p q:Prop} (h:b=true->p) (k:b=false->q):Bk b p q:=.mk h k
theorem A3 {p q:Prop}:Bk true p q↔p:=⟨λ⟨h,_⟩=>h rfl,λh=>.mk (λ_=>h) (λe=>by cases e)⟩
theorem AZ {p q:Prop}:Bk false p q↔q:=⟨λ⟨_,h⟩=>h rfl,λh=>.mk (λe=>by cases e) (λ_=>h)⟩
theorem Wi {p q:Prop} (h:p):Bk true p q:=A3.2 h
theorem Wj {p q:Prop} (h:q):Bk false p q:=AZ.2 h
def V.force (v:V) (K:V->Prop):Prop:=
 match v with
 | .BD=>K .BD
 | .bool b=>K (.bool b)
 | .int k n=>K (.int k n)
 | .str s=>K (.str s)
 | .agg cs=>K (.agg cs)
 | .Bj vs=>K (.Bj vs)
 | .slice sz es o=>K (.slice sz es o)
 | .ptr b o=>K (.ptr b o)
 | .B3 b o=>K (.B3 b o)
 | .FY b o=>K (.FY b o)
 | .DR=>K .DR
 | .func f a c=>K (.func f a c)
 | .Ar=>K .Ar
 | .iface t v=>K (.iface t v)
 | .EJ=>K .EJ
 | .OC s n=>K (.OC s n)
 | .Fp sz b n c=>K (.Fp sz b n c)
 | .XX l=>K (.XX l)
theorem V.AK {v:V} {K:V->Prop}:v.force K↔K v:=by
 cases v<;>exact Iff.rfl
def V.part (v:V) (K:V->Prop):Prop:=
 match v with
 | .bool b=>Bk b (K (.bool true)) (K (.bool false))
 |v=>v.force K
theorem V.QQ {v:V} {K:V->Prop}:v.part K↔K v:=by
 cases v with
 |bool b=>cases b<;>first|exact AZ|exact A3
 |_=>simp only [V.part,V.AK]
def aW (l:List V):(List V->Prop)->Prop:=
 List.rec (motive:=λ_=>(List V->Prop)->Prop) (λK=>K []) (λv _ ih K=>v.part λv=>ih λr=>K (v::r)) l
theorem Zd (v:V) (r:List V) (K:List V->Prop):aW (v::r) K=v.part λv=>aW r λr=>K (v::r):=rfl
theorem SC:∀{l:List V} {K:List V->Prop},aW l K↔K l
 |[],_=>Iff.rfl
 |v::r,K=>by rw [Zd,V.QQ,SC]
def V.back (v:V) (K:V->Prop):Prop:=
 match v with
 | .Bj vs=>aW vs λvs=>K (.Bj vs)
 |v=>v.part K
theorem V.Ps {v:V} {K:V->Prop}:v.back K↔K v:=by
 cases v with
 |Bj vs=>exact SC
 |_=>simp only [V.back,V.QQ]
def Fz (l:List V):(List V->Prop)->Prop:=
 List.rec (motive:=λ_=>(List V->Prop)->Prop) (λK=>K []) (λv _ ih K=>v.force λv=>ih λr=>K (v::r)) l
theorem VG (v:V) (r:List V) (K:List V->Prop):Fz (v::r) K=v.force λv=>Fz r λr=>K (v::r):=rfl
theorem A5:∀{l:List V} {K:List V->Prop},Fz l K↔K l
 |[],_=>Iff.rfl
 |v::r,K=>by rw [VG,V.AK,A5]
def L8 (l:List (List V)):(List (List V)->Prop)->Prop:=
 List.rec (motive:=λ_=>(List (List V)->Prop)->Prop) (λK=>K []) (λv _ ih K=>Fz v λv=>ih λr=>K (v::r)) l
theorem TJ (v:List V) (r:List (List V)) (K:List (List V)->Prop):L8 (v::r) K=Fz v λv=>L8 r λr=>K (v::r):=rfl
theorem Hp:∀{l:List (List V)} {K:List (List V)->Prop},L8 l K↔K l
 |[],_=>Iff.rfl
 |v::r,K=>by rw [TJ,A5,Hp]
inductive At where
 |ret (v:V)
 |BK (v:V)
inductive AD where
 |normal|exit (id:Nat)|goto (l:Nat)|ret|BK (v:V)
def C9:Nat:=4611686018427387904
def TB (env:Env) (l:List Operand):(List V->Prop)->Prop:=
 List.rec (motive:=λ_=>(List V->Prop)->Prop) (λK=>K []) (λx _ ih K=>(env.eval x).force λv=>Dx v.plain (ih λvs=>K (v::vs))) l
theorem VB (env:Env) (x:Operand) (r:List Operand) (K:List V->Prop):TB env (x::r) K=(env.eval x).force λv=>Dx v.plain (TB env r λvs=>K (v::vs)):=rfl
section
variable (T:List (Nat×Ty))
def VA (env:Env) (ts:List TypeId) (l:List Operand):(List V->Prop)->Prop:=
 List.rec (motive:=λ_=>List TypeId->(List V->Prop)->Prop) (λ_ K=>K [])
  (λx _ ih ts K=>(env.B4 T (ts.headD 0) x).force λv=>Dx v.plain (ih ts.tail λvs=>K (v::vs))) l ts
theorem Sq (env:Env) (ts:List TypeId) (x:Operand) (r:List Operand) (K:List V->Prop):
 VA T env ts (x::r) K=(env.B4 T (ts.headD 0) x).force λv=>Dx v.plain (VA T env ts.tail r λvs=>K (v::vs)):=rfl
end
def bin (op:BinOp) (x y:V) (K:V->Prop):Prop:=
 match x,y with
 | .int k a,.int U b=>
   Dx (decide (k=U)) (match op with
   | .add=>∃r,r=k.wrap (a+b)/\K (.int k r)
   | .sub=>∃r,r=k.wrap (a - b)/\K (.int k r)
   | .mul=>∃r,r=k.wrap (a*b)/\K (.int k r)
   | .quo=>b≠0/\∃r,r=k.wrap (a.tdiv b)/\K (.int k r)
   | .rem=>b≠0/\K (.int k (a.tmod b))
   | .and=>∃r,r=k.wrap ((BitVec.ofInt k.bits a&&&BitVec.ofInt k.bits b).toNat:Int)/\K (.int k r)
   | .eql=>Bk (a==b) (K (.bool true)) (K (.bool false))
   | .neq=>Bk (a==b) (K (.bool false)) (K (.bool true))
   | .lss=>Bk (decide (a<b)) (K (.bool true)) (K (.bool false))
   | .leq=>Bk (decide (a<=b)) (K (.bool true)) (K (.bool false))
   | .gtr=>Bk (decide (b<a)) (K (.bool true)) (K (.bool false))
   | .geq=>Bk (decide (b<=a)) (K (.bool true)) (K (.bool false))
   |_=>False)
 | .str a,.str b=>
   match op with
   | .add=>a.length+b.length<C9/\K (.str (a++b))
   | .eql=>Bk (a==b) (K (.bool true)) (K (.bool false))
   | .neq=>Bk (a==b) (K (.bool false)) (K (.bool true))
   |_=>False
 |_,_=>False
def fI (z x y:V):Option Bool:=
 match z,x,y with
 | .int _ _,.int k a,.int U b=>bif decide (k=U) then some (a==b) else none
 | .str _,.str a,.str b=>some (a==b)
 | .bool _,.bool a,.bool b=>some (a==b)
 |_,_,_=>none
noncomputable def mE (z:List V):List V->List V->Option Bool:=
 List.rec (motive:=λ_=>List V->List V->Option Bool) (λU ys=>match U,ys with|[],[]=>some true|_,_=>none)
  (λz _ ih U ys=>match U,ys with
    |x::U,y::ys=>match fI z x y,ih U ys with
     |some a,some b=>some (a&&b)
     |_,_=>none
    |_,_=>none) z
theorem cK (z:V) (r U ys:List V):mE (z::r) U ys=match U,ys with
 |x::U,y::ys=>match fI z x y,mE r U ys with
  |some a,some b=>some (a&&b)
  |_,_=>none
 |_,_=>none:=rfl
def aq (z:List V):Bool:=z.all λ| .int _ _| .str _| .bool _=>true|_=>false
def isNilIface:Operand->Bool
 | .const .nilIface=>true
 |_=>false
def Lb (op:BinOp) (ty:Option Ty) (v:V) (K:V->Prop):Prop:=
 match ty with
 |some (.sc .EJ)=>match op,v with
  | .eql,.EJ=>K (.bool true)
  | .eql,.iface _ _=>K (.bool false)
  | .neq,.EJ=>K (.bool false)
  | .neq,.iface _ _=>K (.bool true)
  |_,_=>False
 |_=>False
def QL (op:BinOp) (ty:Option Ty) (v:V) (K:V->Prop):Prop:=
 match ty with
 |some (.slice _ _ _)=>match op,v with
  | .eql,.slice _ es _=>∀b:Bool,(b=true->es=[])->K (.bool b)
  | .neq,.slice _ es _=>∀b:Bool,(b=false->es=[])->K (.bool b)
  |_,_=>False
 |_=>False
def S6 (op:BinOp) (ty:Option Ty) (U:List V) (y:V) (K:V->Prop):Prop:=
 match ty,y with
 |some (.struct _ z),.agg ys=>Dx (aq z) (match mE z U ys with
  |some b=>match op with
   | .eql=>Bk b (K (.bool true)) (K (.bool false))
   | .neq=>Bk b (K (.bool false)) (K (.bool true))
   |_=>False
  |none=>False)
 |_,_=>False
def OO (op:BinOp) (ty:Option Ty) (a:Bool) (y:V) (K:V->Prop):Prop:=
 match ty,y with
 |some (.sc (.bool _)),.bool b=>match op with
  | .eql=>Bk a (Bk b (K (.bool true)) (K (.bool false))) (Bk b (K (.bool false)) (K (.bool true)))
  | .neq=>Bk a (Bk b (K (.bool false)) (K (.bool true))) (Bk b (K (.bool true)) (K (.bool false)))
  |_=>False
 |_,_=>False
def ca (op:BinOp) (ty:Option Ty) (x y:V) (K:V->Prop):Prop:=
 match x with
 | .agg U=>S6 op ty U y K
 | .bool a=>OO op ty a y K
 |x=>bin op x y K
def V.NA:V->Bool
 | .OC _ _=>false
 |_=>true
def NA:List V->Bool
 |[v]=>v.NA
 |_=>true
def CY (cs:List V) (off:Nat) (ty:Option Ty) (K:V->Prop):Prop:=
 Dx (NA cs) (match ty with
 |some (.struct _ z)|some (.arr _ z)=>
  match Nat.beq off 0&&Nat.beq z.length cs.length with
  |true=>K (.agg cs)
  |false=>Dx (Nat.ble (off+z.length) cs.length) (Fz ((cs.drop off).take z.length) λl=>K (.agg l))
 |some _=>match cs[off]? with|some v=>v.force K|none=>False
 |none=>False)
def Cg (cs:List V) (off:Nat) (new:List V) (K:List V->Prop):Prop:=
 Dx (NA cs) (Dx (Nat.ble (off+new.length) cs.length) (Dx (new.all V.sc) (Fz (cs.take off++new++cs.drop (off+new.length)) K)))
def L5 (U:List (Nat×Nat)) (cs:List V) (l:List (Nat×V)):(List V->Prop)->Prop:=
 List.rec (motive:=λ_=>List V->(List V->Prop)->Prop) (λcs K=>Fz cs K) (λp _ ih cs K=>match U[p.1]? with
  |some (off,size)=>Dx (Nat.beq p.2.cells.length size) (Dx (Nat.ble (off+size) cs.length) (ih (cs.take off++p.2.cells++cs.drop (off+size)) K))
  |none=>False) l cs
theorem P8 (U:List (Nat×Nat)) (cs:List V) (i:Nat) (v:V) (r:List (Nat×V)) (K:List V->Prop):L5 U cs ((i,v)::r) K=(match U[i]? with
 |some (off,size)=>Dx (Nat.beq v.cells.length size) (Dx (Nat.ble (off+size) cs.length) (L5 U (cs.take off++v.cells++cs.drop (off+size)) r K))
 |none=>False):=rfl
def Gt (env:Env) (l:List (Nat×Operand)):(List (Nat×V)->Prop)->Prop:=
 List.rec (motive:=λ_=>(List (Nat×V)->Prop)->Prop) (λK=>K []) (λp _ ih K=>(env.eval p.2).force λv=>Dx v.known (ih λvs=>K ((p.1,v)::vs))) l
theorem L1 (env:Env) (i:Nat) (x:Operand) (r:List (Nat×Operand)) (K:List (Nat×V)->Prop):
 Gt env ((i,x)::r) K=(env.eval x).force λv=>Dx v.known (Gt env r λvs=>K ((i,v)::vs)):=rfl
def MI:Nat->List (Nat×Operand)->Bool
 |_,[]=>true
 |n,(i,_)::r=>Nat.beq i n&&MI (n+1) r
def Env.R0 (e:Env) (d:Option Nat):Bool:=match d with|some t=>e.gl.any (Nat.beq t)|none=>false
def IK (env:Env) (st:St) (d:Option Nat) (cs:List V) (K:V->Env->St->Prop):Prop:=
 match env.R0 d with
 |true=>Fz cs λcs=>∀b,st.fresh b->K (.ptr b 0) env (st.Aa b cs)
 |false=>Fz cs λcs=>match env with
  |⟨ts,bs,n,sz,gl⟩=>K (.B3 n 0) ⟨ts,(n,cs)::bs,n+1,sz,gl⟩ st
def Ag (sz bytes:Nat) (es:List (List V)) (own:AA) (new:List (List V)) (st:St) (K:V->St->Prop):Prop:=
 (es.length+new.length)*bytes<=140737488355328/\es.length+new.length<C9/\Dx (new.all λv=>v.all V.sc) (
 match own with
 | .any=>False
 | .full=>(new=[]->K (.slice sz es .full) st)/\
    (new≠[]->(∀b,st.fresh b->K (.slice sz (es++new.map (·.map V.Jl)) (.tok b)) (st.BB b ((es.length+new.length)*sz)))\/
      ∀b cap m,st.fresh b->(es.length+new.length)*sz+m=cap*sz->K (.Fp sz b (es.length+new.length) cap) (st.Aa b ((es++new.map (·.map V.Jl)).flatten++List.replicate m .BD)))
 | .tok b=>st.hw b=some (es.length*sz)/\
    ((∀U,(U=b\/st.fresh U)->K (.slice sz (es++new.map (·.map V.Jl)) (.tok U)) ((st.Dd b).BB U ((es.length+new.length)*sz)))\/K .BD st))
def GD (sz bytes b n cap:Nat) (new:List (List V)) (st:St) (K:V->St->Prop):Prop:=
 (n+new.length)*bytes<=140737488355328/\n+new.length<C9/\Dx (new.all λv=>v.all V.sc) (new≠[]/\∃cs,st.box b=some cs/\cs.length=cap*sz/\
   ∀b' U m,(b'=b\/st.fresh b')->(n+new.length)*sz+m=U*sz->K (.Fp sz b' (n+new.length) U) (st.Aa b' (cs.take (n*sz)++(new.map (·.map V.Jl)).flatten++List.replicate m .BD)))
def AA.st (st:St) (n:Nat):AA->St
 | .tok b=>st.BB b n
 |_=>st
def AA.Bw (st:St):AA->Prop
 | .full=>True
 | .tok b=>st.fresh b
 | .any=>False
theorem E2 {sz bytes:Nat} {es:List (List V)} {own:AA} {new:List (List V)} {st:St} {K:V->St->Prop} (h:own.Bw st)
 (h1:(es.length+new.length)*bytes<=140737488355328) (h2:es.length+new.length<C9) (h3:(new.all λv=>v.all V.sc)=true)
 (k:∀U:AA,U.Bw st->K (.slice sz (es++new.map (·.map V.Jl)) U) (U.st st ((es.length+new.length)*sz))):
 Ag sz bytes es own new (own.st st (es.length*sz)) K:=by
 refine ⟨h1,h2,AL h3 ?_⟩
 cases own with
 |any=>exact h.elim
 |full=>exact ⟨λe=>by simp_all,λ_=>.inl λb hb=>k (.tok b) hb⟩
 |tok b=>
  refine ⟨by simp [AA.st,St.BB],.inl λb' hb'=>?_⟩
  have hf:st.fresh b:=h
  have e:(st.BB b (es.length*sz)).Dd b=st:=by
   cases st
   simp only [St.BB,St.Dd,St.mk.injEq,true_and]
   funext x
   split
   .rename_i e;subst e;exact hf.2.symm
   .rfl
  show K _ (((st.BB b (es.length*sz)).Dd b).BB b' _)
  rw [e]
  refine k (.tok b') ?_
  rcases hb' with rfl|hb'
  .exact hf
  .refine ⟨hb'.1,?_⟩
   have:=hb'.2
   simp only [AA.st,St.BB] at this
   grind
theorem AA.Bi {st:St} {own:AA} {n:Nat} (h:own.Bw st):st.le (own.st st n):=by
 cases own with
 |any=>exact h.elim
 |full=>exact St.le_refl _
 |tok b=>exact St.Fb (St.le_refl _) (show st.fresh b from h).2 n
section
variable (P:Program) (T:List (Nat×Ty)) (C:FuncId->List V->St->(At->St->Prop)->Prop)
def AR:List UInt8->Nat×Nat
 |[]=>(0,1)
 |a::l=>
  let cont (k:Nat):Bool:=match l[k]? with|some b=>b.toNat / 64==2|none=>false
  let U (k:Nat):Nat:=(l.getD k 0).toNat
  if a.toNat<128 then (a.toNat,1)
  else if a.toNat / 32==6&&cont 0 then
   (if a.toNat % 32*64+U 0 % 64>=128 then (a.toNat % 32*64+U 0 % 64,2) else (65533,1))
  else if a.toNat / 16==14&&cont 0&&cont 1 then
   (if a.toNat % 16*4096+U 0 % 64*64+U 1 % 64>=2048&&Utf8.valid ((a.toNat % 16*4096+U 0 % 64*64+U 1 % 64:Nat):Int) then (a.toNat % 16*4096+U 0 % 64*64+U 1 % 64,3) else (65533,1))
  else if a.toNat / 8==30&&cont 0&&cont 1&&cont 2 then
   (if a.toNat % 8*262144+U 0 % 64*4096+U 1 % 64*64+U 2 % 64>=65536&&Utf8.valid ((a.toNat % 8*262144+U 0 % 64*4096+U 1 % 64*64+U 2 % 64:Nat):Int) then (a.toNat % 8*262144+U 0 % 64*4096+U 1 % 64*64+U 2 % 64,4) else (65533,1))
  else (65533,1)
def FE (o:Oper) (env:Env) (st:St) (K:V->Env->St->Prop) (Q:AD->Env->St->Prop):Prop:=
 match o.op with
 | .move x| .assign x=>(env.B4 T o.type x).force λv=>K v env st
 | .pick c a b=>match env.eval c with
   | .bool t=>lit t ((env.B4 T o.type a).force λv=>K v env st) ((env.B4 T o.type b).force λv=>K v env st)
   |_=>False
 | .alloc t=>match assoc T t with
   |some ty=>IK env st o.dst ty.zero.cells K
   |none=>False
 | .box t x=>(env.B4 T t x).force λv=>Dx v.known (IK env st o.dst v.cells K)
 | .build t parts=>match assoc T t with
   |some (.struct U z)=>Gt env parts.toList λps=>L5 U z ps λcs=>K (.agg cs) env st
   |some (.arr U z)=>Gt env parts.toList λps=>L5 U z ps λcs=>K (.agg cs) env st
   |_=>False
 | .buildSlice t len parts=>match assoc T t with
   |some (.slice _ sz _)=>Dx (MI 0 parts.toList) (Dx (Nat.beq len parts.toList.length) (Dx (Nat.ble (len*sz) 16777216)
    (TB env (parts.toList.map (·.2)) λvs=>Dx (vs.all λv=>v.known&&Nat.beq v.cells.length sz) (L8 (vs.map λv=>v.cells.map V.Jl) λes=>K (.slice sz es .full) env st))))
   |_=>False
 | .load t x=>match env.eval x with
   | .B3 id off=>match assoc env.boxes id with
     |some cs=>CY cs off (assoc T t) (λv=>K v env st)
     |none=>False
   | .ptr b off=>∃cs,st.box b=some cs/\CY cs off (assoc T t) (λv=>K v env st)
   | .FY e off=>CY e off (assoc T t) (λv=>K v env st)
   |_=>False
 | .store t x y=>match env.eval x with
   | .B3 id off=>match assoc env.boxes id,assoc T t with
     |some cs,some ty=>match env with
      |⟨ts,bs,n,sz,gl⟩=>(Env.B4 T ⟨ts,bs,n,sz,gl⟩ t y).force λv=>Dx (v.known&&Nat.beq v.cells.length ty.zero.cells.length)
       (Cg cs off v.cells λcs'=>K .BD ⟨ts,(id,cs')::bs,n,sz,gl⟩ st)
     |_,_=>False
   | .ptr b off=>match assoc T t with
     |some ty=>∃cs,st.box b=some cs/\(env.B4 T t y).force λv=>Dx (v.known&&Nat.beq v.cells.length ty.zero.cells.length)
       (Cg cs off v.cells λcs'=>K .BD env (st.Aa b cs'))
     |none=>False
   |_=>False
 | .nilCheck x=>match env.eval x with
   | .B3 id off=>K (.B3 id off) env st
   | .ptr b off=>K (.ptr b off) env st
   | .FY e off=>K (.FY e off) env st
   |_=>False
 | .fieldAddr t x f=>match assoc T t,env.eval x with
   |some (.struct U _),.B3 id off=>match U[f]? with|some (o,s)=>Dx (Nat.blt 0 s) (K (.B3 id (off+o)) env st)|none=>False
   |some (.struct U _),.ptr b off=>match U[f]? with|some (o,s)=>Dx (Nat.blt 0 s) (K (.ptr b (off+o)) env st)|none=>False
   |some (.struct U _),.FY e off=>match U[f]? with|some (o,s)=>Dx (Nat.blt 0 s) (K (.FY e (off+o)) env st)|none=>False
   |_,_=>False
 | .binOp op t x y _=>match isNilIface y with
   |true=>Lb op (assoc T t) (env.eval x) λv=>K v env st
   |false=>match FA y with
    |true=>QL op (assoc T t) (env.eval x) λv=>K v env st
    |false=>ca op (assoc T t) (env.eval x) (env.eval y) λv=>K v env st
 | .makeInterface t x=>match assoc T t with
   |some (.sc .EJ)=>False
   |some _=>(env.B4 T t x).force λv=>Dx v.known (K (.iface t v) env st)
   |none=>False
 | .typeAssert x _ t ok=>match assoc T t with
   |some (.sc .EJ)=>False
   |some ty=>match env.eval x with
    | .iface t' v=>bif Nat.beq t' t then Dx v.known (bif ok then K (.Bj [v,.bool true]) env st else v.force λv=>K v env st) else Dx ok (K (.Bj [ty.zero,.bool false]) env st)
    | .EJ=>Dx ok (K (.Bj [ty.zero,.bool false]) env st)
    |_=>False
   |none=>False
 | .panic x=>match env.eval x with
   | .iface t v=>Q (.BK (.iface t v)) env st
   |_=>False
 | .slice t x lo (some hi) (some mx)=>match assoc T t,env.eval x with
   |some (.slice _ sz' _),.slice sz es _=>
    match (lo.map env.eval).getD (.int .i64 0),env.eval hi,env.eval mx with
    | .int _ l,.int _ h,.int _ m=>Dx (Nat.beq sz' sz) ((0<=l/\l<=h/\h=m/\m<=es.length)/\∀es',es'=(es.take h.toNat).drop l.toNat->K (.slice sz es' .full) env st)
    |_,_,_=>False
   |_,_=>False
 | .unOp op _ x=>match op,env.eval x with
   | .not,.bool b=>lit b (K (.bool false) env st) (K (.bool true) env st)
   | .neg,.int k n=>∃r,r=k.wrap (0 - n)/\K (.int k r) env st
   |_,_=>False
 | .makeFunc (.func f) first cap=>TB env first.toList λa=>TB env cap.toList λc=>K (.func f a c) env st
 | .indexAddr t x i=>match assoc T t,env.eval x,env.eval i with
   |some (.slice _ sz' _),.slice sz es _,.int _ n=>Dx (Nat.beq sz' sz) (0<=n/\∃e,es[n.toNat]? =some e/\K (.FY e 0) env st)
   |some (.slice _ sz' _),.Fp sz b m _,.int _ n=>Dx (Nat.beq sz' sz) ((0<=n/\n<(m:Int))/\∀k,k=n.toNat*sz->K (.ptr b k) env st)
   |some (.arr U _),.B3 id off,.int _ n=>(match n with
    | .ofNat m=>(match U[m]? with|some (o,_)=>K (.B3 id (off+o)) env st|none=>False)
    | .negSucc _=>False)
   |_,_,_=>False
 | .index t x i=>match assoc T t,env.eval x,env.eval i with
   |some (.sc (.str _)),.str s,.int _ n=>0<=n/\∃e,s[n.toNat]? =some e/\K (.int .u8 e.toNat) env st
   |_,_,_=>False
 | .slice t x lo hi none=>match assoc T t,env.eval x with
   |some (.slice _ sz' _),.slice sz es _=>
    match (lo.map env.eval).getD (.int .i64 0),(hi.map env.eval).getD (.int .i64 es.length) with
    | .int _ l,.int _ h=>Dx (Nat.beq sz' sz) ((0<=l/\l<=h/\h<=es.length)/\∀es',es'=(es.take h.toNat).drop l.toNat->K (.slice sz es' .any) env st)
    |_,_=>False
   |some (.sc (.str _)),.str s=>
    match (lo.map env.eval).getD (.int .i64 0),(hi.map env.eval).getD (.int .i64 s.length) with
    | .int _ l,.int _ h=>(0<=l/\l<=h/\h<=s.length)/\∀s',s'=(s.take h.toNat).drop l.toNat->K (.str s') env st
    |_,_=>False
   |some (.slice _ sz' _),.Fp sz b n cap=>
    match (lo.map env.eval).getD (.int .i64 0),(hi.map env.eval).getD (.int .i64 n) with
    | .int _ l,.int _ h=>Dx (Nat.beq sz' sz) ((l=0/\0<=h/\h<=n)/\∀k,k=h.toNat->K (.Fp sz b k cap) env st)
    |_,_=>False
   |_,_=>False
 | .field t x f=>match assoc T t,env.eval x with
   |some (.struct U _),.agg cs=>match U[f]? with
    |some (o,1)=>match cs[o]? with|some v=>v.force λv=>K v env st|none=>False
    |_=>False
   |_,_=>False
 | .extract x i=>match env.eval x with
   | .Bj vs=>match vs[i]? with|some v=>v.force λv=>K v env st|none=>False
   |_=>False
 | .convert t u x=>match assoc T t,assoc T u,env.eval x with
   |some (.sc (.int _ _)),some (.sc (.int k' _)),.int _ n=>∃r,r=k'.wrap n/\K (.int k' r) env st
   |_,_,_=>False
 | .range t x=>match assoc T t,env.eval x with
   |some (.sc (.str _)),.str s=>Dx (!env.R0 o.dst) (match env with
    |⟨ts,bs,n,sz,gl⟩=>K (.B3 n 0) ⟨ts,(n,[.OC s 0])::bs,n+1,sz,gl⟩ st)
   |_,_=>False
 | .next x true=>match env.eval x with
   | .B3 id 0=>match assoc env.boxes id with
     |some [.OC s pos]=>match env with
      |⟨ts,bs,n,sz,gl⟩=>Bk (decide (pos<s.length)) (∀c m,(c,m)=AR (s.drop pos)->K (.Bj [.bool true,.int .i64 pos,.int .i32 c]) ⟨ts,(id,[.OC s (pos+m)])::bs,n,sz,gl⟩ st) (K (.Bj [.bool false]) ⟨ts,bs,n,sz,gl⟩ st)
     |_=>False
   |_=>False
 | .makeSlice t l c=>match assoc T t,env.eval l,env.eval c with
   |some (.slice el sz bytes),.int _ n,.int _ m=>(0<=n/\n<=m/\m*bytes<=140737488355328/\m<C9)/\
    ((n=0/\∀b,st.fresh b->K (.slice sz [] (.tok b)) env (st.BB b 0))\/
     (n=m/\match assoc T el with|some ty=>∀b k,st.fresh b->k=n.toNat->K (.Fp sz b k k) env (st.Aa b (List.replicate k ty.zero.cells).flatten)|none=>False))
   |_,_,_=>False
 | .call c=>match c.callee with
   | .builtin .len=>match c.args.toList.map env.eval,c.argTypes.toList.map (assoc T) with
     |[.slice _ es _],[some (.slice _ _ _)]=>∀m:Nat,m=es.length->m<C9->K (.int .i64 m) env st
     |[.str s],[some (.sc (.str _))]=>s.length<C9->K (.int .i64 s.length) env st
     |[.Fp _ _ n _],[some (.slice _ _ _)]=>n<C9->K (.int .i64 n) env st
     |_,_=>False
   | .builtin .min=>match c.args.toList.map env.eval with
     |[.int k a,.int k' b]=>Dx (decide (k=k')) (∃r,r=(if b<a then b else a)/\K (.int k r) env st)
     |_=>False
   | .builtin .max=>match c.args.toList.map env.eval with
     |[.int k a,.int k' b]=>Dx (decide (k=k')) (∃r,r=(if a<b then b else a)/\K (.int k r) env st)
     |_=>False
   | .builtin .append=>match c.args.toList,c.argTypes.toList with
     |[x,y],[t,u]=>match assoc T t,assoc T u,env.B4 T t x,env.B4 T u y with
      |some (.slice _ sz bytes),some (.slice _ _ _),.slice sz' es own,.slice sz'' new _=>
       Dx (Nat.beq t u&&(Nat.beq sz sz'&&Nat.beq sz sz'')) (Ag sz bytes es own new st λv st'=>K v env st')
      |some (.slice _ sz bytes),some (.slice _ _ _),.Fp sz' b n cap,.slice sz'' new _=>
       Dx (Nat.beq t u&&(Nat.beq sz sz'&&Nat.beq sz sz'')) (GD sz bytes b n cap new st λv st'=>K v env st')
      |_,_,_,_=>False
     |_,_=>False
   | .value f=>match env.eval f with
     | .func f a cap=>VA T env c.argTypes.toList c.args.toList λvs=>Fz (a++(vs++cap)) λvs=>C f vs st λr st'=>match r with
       | .ret v=>v.back λv=>K v env st'
       | .BK v=>Q (.BK v) env st'
     |_=>False
   |_=>False
 |_=>False
def Env.go (env:Env) (d:Option Nat) (v:V) (K:Env->Prop):Prop:=
 match env,d with
 |⟨ts,bs,n,sz,gl⟩,some t=>Dx (Nat.blt t sz) (K ⟨(t,v)::ts,bs,n,sz,gl⟩)
 |e,none=>K e
def Bg (all:List Oper) (o:Oper) (env:Env) (yes no:Prop):Prop:=
 match o.guard with
 |none=>yes
 |some (j,want)=>
  match ((all[j]?).bind (·.dst)).map env.get with
  |some (.bool b)=>bif want then lit b yes no else lit b no yes
  |some (.Bj [])=>no
  |_=>False
def Fu (all:List Oper) (Q:AD->Env->St->Prop) (l:List Oper):Env->St->Prop:=
 List.rec (motive:=λ_=>Env->St->Prop) (λenv st=>Q .normal env st)
  (λo _ ih env st=>Bg all o env (FE T C o env st (λv env st=>env.go o.dst v λenv=>ih env st) Q) (env.go o.dst (.Bj []) λenv=>ih env st)) l
theorem Zb (all:List Oper) (Q:AD->Env->St->Prop) (o:Oper) (r:List Oper) (env:Env) (st:St):Fu T C all Q (o::r) env st=
 Bg all o env (FE T C o env st (λv env st=>env.go o.dst v λenv=>Fu T C all Q r env st) Q) (env.go o.dst (.Bj []) λenv=>Fu T C all Q r env st):=rfl
noncomputable def Env.only (env:Env) (bs:List (Nat×List V)) (Ct:List Nat):Env:={env with tmps:=Ct.map λt=>(t,env.get t),boxes:=bs}
def Oper.Ct (all:List Oper) (o:Oper):List Nat:=
 (o.op.operands.toList.filterMap λ| .tmp t=>some t|_=>none)++(match o.guard with|some (j,_)=>((all[j]?).bind (·.dst)).toList|none=>[])
def Bx (all:List Oper) (o:Oper) (bs:List (Nat×List V)) (env:Env) (st:St) (v:V):Prop:=
 FE T C o (env.only bs (Oper.Ct all o)) st (λU e s=>U=v/\e=env.only bs (Oper.Ct all o)/\s=st) (λ_ _ _=>False)
noncomputable def Ba (L:List (Option Nat)) (bs:List (Nat×List V)):List (Nat×List V):=
 List.rec (motive:=λ_=>List (Nat×List V)) [] (λp _ ih=>Bool.rec (motive:=λ_=>List (Nat×List V)) (p::ih) ih (L.contains (some p.1))) bs
def BF (K:Env->St->Prop) (Q:AD->Env->St->Prop):AD->Env->St->Prop
 | .normal,e,s=>K e s
 |x,e,s=>Q x e s
def KY (id:Nat) (Q:AD->Env->St->Prop):AD->Env->St->Prop
 | .exit U,a,w=>bif Nat.beq U id then Q .normal a w else Q (.exit U) a w
 |e,a,w=>Q e a w
noncomputable def V.T4 (bs:List (Nat×List V)):V->Bool
 | .B3 id _=>(assoc bs id).isSome
 |_=>true
def Env.le (env' env:Env):Prop:=
 env'.sz=env.sz/\(∀t v,assoc env'.tmps t=some v->v=.BD\/(assoc env.tmps t=some v/\v.T4 env'.boxes=true))/\
 (∀id cs,assoc env'.boxes id=some cs->assoc env.boxes id=some cs)/\(∀id cs,assoc env'.boxes id=some cs->id<env'.BG)
def YL (env:Env) (bs:List (Nat×List V)):List (Nat×V)->Prop
 |[]=>True
 |(t,v)::r=>(match assoc env.tmps t with|some u=>u=v|none=>False)/\v.T4 bs=true/\YL env bs r
def T2 (env:Env):List (Nat×List V)->Prop
 |[]=>True
 |(t,v)::r=>(match assoc env.boxes t with|some u=>u=v|none=>False)/\T2 env r
def Env.Ek (env' env:Env):Prop:=env'.sz=env.sz/\YL env env'.boxes env'.tmps/\T2 env env'.boxes/\(env'.boxes.all λp=>Nat.blt p.1 env'.BG)=true
theorem EO {α:Type}:∀{l:List (Nat×α)} {t:Nat} {v:α},assoc l t=some v->(t,v) ∈ l
 |(k,u)::r,t,v,h=>by
  rw [Bf] at h
  cases U:Nat.beq k t with
  |true=>
   simp_all
  |false=>rw [U] at h;exact List.mem_cons_of_mem _ (EO h)
theorem Qx {env:Env} {bs:List (Nat×List V)}:∀{l:List (Nat×V)},YL env bs l->∀p ∈ l,assoc env.tmps p.1=some p.2/\p.2.T4 bs=true
 |(t,v)::r,h,p,U=>by
  rcases List.mem_cons.1 U with rfl|U
  .refine ⟨?_,h.2.1⟩
   have h1:=h.1
   grind
  .exact Qx h.2.2 p U
theorem Od {env:Env}:∀{l:List (Nat×List V)},T2 env l->∀p ∈ l,assoc env.boxes p.1=some p.2
 |(t,v)::r,h,p,U=>by
  rcases List.mem_cons.1 U with rfl|U
  .have h1:=h.1
   grind
  .exact Od h.2 p U
theorem Env.Ie {env' env:Env} (h:env'.Ek env):env'.le env:=by
 refine ⟨h.1,λt v U=>.inr (Qx h.2.1 (t,v) (EO U)),λid cs hb=>Od h.2.2.1 (id,cs) (EO hb),λid cs hb=>?_⟩
 have:=List.all_eq_true.1 h.2.2.2 (id,cs) (EO hb)
 simp_all
def BW:Op->Bool
 | .alloc _| .box _ _| .store _ _ _| .range _ _| .next _ _| .makeSlice _ _ _=>false
 |_=>true
def reaches (all:List Oper):Nat->Nat->Nat->Bool
 |0,_,_=>false
 |n+1,i,j=>match all[i]? with
  |some o=>(o.after.toList.any λe=>Region.binds .any e&&Nat.beq e.on j)||o.after.toList.any λe=>Region.binds .any e&&Nat.blt j e.on&&reaches all n e.on j
  |none=>false
def Zc (all:List Oper) (i j:Nat) (o p:Oper):Bool:=
 match p.dst with
 |none=>true
 |some t=> !(o.dst==some t)&&(!((Oper.Ct all o).contains t)||(if Nat.blt j i then reaches all all.length i j else reaches all all.length j i))
def Ji:St:=⟨λ_=>none,λ_=>none⟩
def Ev:Op->Bool
 | .move _| .assign _| .pick _ _ _| .load _ _| .fieldAddr _ _ _| .nilCheck _| .binOp _ _ _ _ _| .unOp _ _ _| .build _ _| .buildSlice _ _ _| .extract _ _| .field _ _ _| .makeFunc _ _ _| .index _ _ _| .indexAddr _ _ _| .slice _ _ _ _ _| .makeInterface _ _| .convert _ _ _=>true
 | .call ⟨.builtin .len,_,_⟩| .call ⟨.builtin .min,_,_⟩| .call ⟨.builtin .max,_,_⟩=>true
 |_=>false
def CP:Op->Bool
 | .store _ _ _=>true
 |_=>false
noncomputable def Is (L:List Nat) (env:Env) (o:Oper):Bool:=match o.op with
 | .store _ x _=>match env.eval x with
   | .B3 id _=>L.contains id
   |_=>true
 |_=>true
noncomputable def aL (all:List Oper) (l:List (Nat×Bool)):List Nat->Bool:=
 List.rec (motive:=λ_=>List Nat->Bool) (λ_=>true) (λp r ih done=>(match all[p.1]? with
  |some o=>(o.after.toList.all λe=> !(Region.binds .any e)||done.contains e.on)&&(bif p.2 then Ev o.op else (BW o.op||CP o.op))
  |none=>false)&&(!(done.contains p.1)&&((p.2||r.all λx=>reaches all all.length x.1 p.1)&&ih (p.1::done)))) l
noncomputable def Ft (sched:List (Nat×Bool)) (all:List Oper):Bool:=
 ((List.range all.length).all λi=>sched.any λp=>Nat.beq p.1 i)&&(aL all sched []&&(List.range all.length).all λi=>(List.range all.length).all λj=>Nat.beq i j||match all[i]?,all[j]? with
   |some o,some p=>Zc all i j o p
   |_,_=>true)
def GR (S:List (Nat×Bool)) (all:List Oper) (i:Nat):Bool:=S.all λx=>x.2||reaches all all.length x.1 i
def FJ (S:List (Nat×Bool)) (all:List Oper) (i:Nat):Bool:=S.all λx=>x.2||((match all[x.1]? with|some o=> !CP o.op|none=>false)||reaches all all.length x.1 i)
def DC (all:List Oper) (S:List (Nat×Bool)) (L:List Nat) (U:List (Nat×List V)) (Q:AD->Env->St->Prop) (l:List (Nat×Bool)):Env->St->Prop:=
 List.rec (motive:=λ_=>Env->St->Prop) (λenv st=>Q .normal env st) (λp _ ih env st=>match all[p.1]? with
  |none=>False
  |some o=>match p.2 with
   |true=>Bg all o env (∃v,(Bx T C all o U env Ji v\/(GR S all p.1=true/\Bx T C all o env.boxes env st v)\/(FJ S all p.1=true/\Bx T C all o env.boxes env Ji v))/\v.part λv=>env.go o.dst v λenv=>ih env st) (env.go o.dst (.Bj []) λenv=>ih env st)
   |false=>Bg all o env (Dx (Is L env o) (FE T C o env st (λv env st=>env.go o.dst v λenv=>ih env st) (λx _ s=>∀e',Q x e' s))) (env.go o.dst (.Bj []) λenv=>ih env st)) l
theorem La (all:List Oper) (S:List (Nat×Bool)) (L:List Nat) (U:List (Nat×List V)) (Q:AD->Env->St->Prop) (p:Nat×Bool) (r:List (Nat×Bool)) (env:Env) (st:St):DC T C all S L U Q (p::r) env st=(match all[p.1]? with
 |none=>False
 |some o=>match p.2 with
  |true=>Bg all o env (∃v,(Bx T C all o U env Ji v\/(GR S all p.1=true/\Bx T C all o env.boxes env st v)\/(FJ S all p.1=true/\Bx T C all o env.boxes env Ji v))/\v.part λv=>env.go o.dst v λenv=>DC T C all S L U Q r env st) (env.go o.dst (.Bj []) λenv=>DC T C all S L U Q r env st)
  |false=>Bg all o env (Dx (Is L env o) (FE T C o env st (λv env st=>env.go o.dst v λenv=>DC T C all S L U Q r env st) (λx _ s=>∀e',Q x e' s))) (env.go o.dst (.Bj []) λenv=>DC T C all S L U Q r env st)):=rfl
def aA (J:Nat->Env->St->Prop) (Q:AD->Env->St->Prop):AD->Env->St->Prop
 | .goto l,e,s=>J l e s
 |x,e,s=>Q x e s
abbrev CW:Type:=(AD->Env->St->Prop)->Env->St->Prop
abbrev um:Type:=CW×(Nat->Option CW)
def sj (U:Option CW) (wb:CW) (lb:Option CW):Option CW:=
 match U with
 |some f=>some λQ env st=>f (BF (wb Q) Q) env st
 |none=>lb
def O4 (w:CW) (lw:Nat->Option CW) (Q:AD->Env->St->Prop) (env:Env) (st:St):Prop:=
 ∃(α:Type) (U:α->Nat) (E:α->Env) (S:α->St) (J:α->Prop) (μ:α->Nat),
  w (aA (λl env' st'=>∃y,U y=l/\J y/\(E y).Ek env'/\St.le (S y) st') Q) env st/\
  ∀x,J x->∃f,lw (U x)=some f/\f (aA (λl env' st'=>∃y,U y=l/\J y/\μ y<μ x/\(E y).Ek env'/\St.le (S y) st') Q) (E x) (S x)
noncomputable def LA (c:Code):um:=
 Code.rec (motive:=λ_=>um)
  ⟨λQ env st=>Q .normal env st,λ_=>none⟩
  (λ_ ops draw=>⟨λQ env st=>Bool.rec (motive:=λ_=>Prop) (Fu T C ops.toList Q ops.toList env st) (∃(sched:List (Nat×Bool)) (L:List Nat),Ft sched ops.toList=true/\DC T C ops.toList sched L (Ba (L.map some) env.boxes) Q sched env st) draw,λ_=>none⟩)
  (λ_ _ iha U=>⟨λQ env st=>iha.1 (BF (U.1 Q) Q) env st,λl=>sj (iha.2 l) U.1 (U.2 l)⟩)
  (λc _ _ iha U=>⟨λQ env st=>match env.eval c with
    | .bool t=>lit t (iha.1 Q env st) (U.1 Q env st)
    |_=>False,λ_=>none⟩)
  (λid _ ih=>⟨λQ env st=>ih.1 (KY id Q) env st,λ_=>none⟩)
  (λ_ ih=>⟨λQ env st=>∃(α:Type) (E:α->Env) (S:α->St) (J:α->Prop) (μ:α->Nat) (x0:α),J x0/\(E x0).Ek env/\St.le (S x0) st/\
    ∀x,J x->ih.1 (BF (λenv' st'=>∃y,J y/\μ y<μ x/\(E y).Ek env'/\St.le (S y) st') Q) (E x) (S x),λ_=>none⟩)
  (λ_ _ _ _ _ _=>⟨λ_ _ _=>False,λ_=>none⟩)
  (λid=>⟨λQ env st=>Q (.exit id) env st,λ_=>none⟩)
  (λ_ ih=>⟨λQ env st=>O4 ih.1 ih.2 Q env st,λ_=>none⟩)
  (λl'=>⟨λQ env st=>Q .normal env st,λl=>bif Nat.beq l' l then some λQ env st=>Q .normal env st else none⟩)
  (λl=>⟨λQ env st=>Q (.goto l) env st,λ_=>none⟩)
  ⟨λQ env st=>Q .ret env st,λ_=>none⟩
  (λ_=>⟨λ_ _ _=>False,λ_=>none⟩) c
noncomputable def OM (c:Code) (Q:AD->Env->St->Prop) (env:Env) (st:St):Prop:=(LA T C c).1 Q env st
def Uh (env:Env) (st:St) (x:ResultVar) (K:V->Prop):Prop:=
 match x with
 | .tmp t=>(env.get t).force λv=>Dx v.plain (K v)
 | .cell x t=>match env.get x with
   | .B3 id off=>match assoc env.boxes id with
     |some cs=>CY cs off (assoc T t) λv=>K v
     |none=>False
   | .ptr b off=>∃cs,st.box b=some cs/\CY cs off (assoc T t) λv=>K v
   |_=>False
def Es (env:Env) (st:St) (l:List ResultVar):(List V->Prop)->Prop:=
 List.rec (motive:=λ_=>(List V->Prop)->Prop) (λK=>K []) (λx _ ih K=>Uh T env st x λv=>ih λvs=>K (v::vs)) l
theorem RW (env:Env) (st:St) (x:ResultVar) (r:List ResultVar) (K:List V->Prop):Es T env st (x::r) K=Uh T env st x λv=>Es T env st r λvs=>K (v::vs):=rfl
def bu (fn:Func) (R:At->St->Prop):AD->Env->St->Prop
 | .normal,env,st| .ret,env,st=>Es T env st fn.results.toList λvs=>
   match vs with
   |[v]=>R (.ret v) st
   |vs=>R (.ret (.Bj vs)) st
 | .BK v,_,st=>R (.BK v) st
 |_,_,_=>False
noncomputable def Hg (i:Nat) (l:List V):List (Nat×V):=
 List.rec (motive:=λ_=>Nat->List (Nat×V)) (λ_=>[]) (λv _ ih i=>(i,v)::ih (i+1)) l i
theorem X8 (i:Nat) (v:V) (r:List V):Hg i (v::r)=(i,v)::Hg (i+1) r:=rfl
def Tf (fn:Func) (gl:List Nat) (args:List V) (st:St) (R:At->St->Prop):Prop:=
 match fn.body with
 |some c=>Dx (Nat.ble args.length fn.ntmps) (OM T C c (bu T fn R) {tmps:=Hg 0 args,boxes:=[],BG:=0,sz:=fn.ntmps,gl} st)
 |none=>False
def At.wk:At->At
 | .ret v=>.ret v.wk
 | .BK v=>.BK v.wk
end
structure cQ (c:Nat->Nat->Option Value) (s:Nat->Option Nat):Prop where
 first:∀i,i<256->c 1 i=some (.int .u8 (Lib.firstT i))
 accept:∀i,i<16->c 2 (2*i)=some (.int .u8 (Lib.accLo i))/\c 2 (2*i+1)=some (.int .u8 (Lib.accHi i))
 maxLen:∃m,c 3 0=some (.int .i64 m)
 space:∀i,i<256->c 4 i=some (.int .u8 (Lib.asciiSpaceTab.getD i 0))
 kC:s 4=some 256
theorem TO {c U:Nat->Nat->Option Value} {s s':Nat->Option Nat} (h:∀b o v,c b o=some v->U b o=some v) (k:∀b n,s b=some n->s' b=some n) (g:cQ c s):cQ U s':=
 ⟨λi hi=>h _ _ _ (g.first i hi),λi hi=>⟨h _ _ _ (g.accept i hi).1,h _ _ _ (g.accept i hi).2⟩,g.maxLen.imp λ_ e=>h _ _ _ e,λi hi=>h _ _ _ (g.space i hi),k _ _ g.kC⟩
structure Mem where
 cell:Nat->Nat->Option Value
 shape:Nat->Option Nat
def Mem.le (I J:Mem):Prop:=(∀b o v,I.cell b o=some v->J.cell b o=some v)/\∀b n,I.shape b=some n->J.shape b=some n
theorem Mem.le_refl (I:Mem):I.le I:=⟨λ_ _ _ h=>h,λ_ _ h=>h⟩
theorem Mem.le_trans {I J K:Mem} (h:I.le J) (k:J.le K):I.le K:=⟨λb o v x=>k.1 _ _ _ (h.1 _ _ _ x),λb n x=>k.2 _ _ (h.2 _ _ x)⟩
def U0 (I:Mem) (sz len cap:Nat) (a:Option Addr):AA->Prop
 | .any=>True
 | .full=>cap=len
 | .tok b=>a=some ⟨b,0,none⟩/\I.shape b=some (cap*sz)
mutual
def AH (I:Mem):V->Value->Prop
 | .BD,_=>True
 | .bool b,c=>c=.bool b
 | .int k n,c=>c=.int k n
 | .str s,c=>c=.string ⟨s.toArray⟩/\s.length<C9
 | .agg cs,c=>∃vs:List Value,c=.agg vs.toArray/\Ao I cs vs
 | .Bj cs,c=>∃vs:List Value,c=.tuple vs.toArray/\Ao I cs vs
 | .slice sz es own,c=>∃a cap,c=.slice a es.length cap/\es.length<=cap/\es.length<C9/\0<sz/\U0 I sz es.length cap a own/\
    (match a with|none=>cap=0|some U=>(cap=0\/U.spot=none)/\B8 I sz U.block U.off es)
 | .ptr b off,c=>c=.pointer (some ⟨b,off,none⟩)
 | .B3 _ _,_=>False
 | .FY e off,c=>∃b o,c=.pointer (some ⟨b,o+off,none⟩)/\Fv I b o e
 | .DR,c=>c=.pointer none
 | .func f a cap,c=>∃az cs:List Value,c=.func (.func f) az.toArray cs.toArray/\Ao I a az/\Ao I cap cs
 | .Ar,c=>c=.nilFunc
 | .iface t v,c=>∃c',c=.iface t c'/\AH I v c'
 | .EJ,c=>c=.nilIface
 | .OC _ _,_=>False
 | .Fp sz b n cap,c=>c=.slice (some ⟨b,0,none⟩) n cap/\n<=cap/\n<C9/\0<sz
 | .XX l,c=>c=.func (.yield l) #[] #[]
def Ao (I:Mem):List V->List Value->Prop
 |[],vs=>vs=[]
 |v::r,vs=>∃c s,vs=c::s/\AH I v c/\Ao I r s
def Fv (I:Mem) (b o:Nat):List V->Prop
 |[]=>True
 |v::r=>(∃c,I.cell b o=some c/\AH I v c)/\Fv I b (o+1) r
def B8 (I:Mem) (sz b o:Nat):List (List V)->Prop
 |[]=>True
 |e::r=>(e.length=sz/\Fv I b o e)/\B8 I sz b (o+sz) r
end
theorem U0.mono {I J:Mem} (h:I.le J) {sz len cap:Nat} {a:Option Addr} {own:AA} (k:U0 I sz len cap a own):U0 J sz len cap a own:=by
 cases own with
 |any=>trivial
 |full=>exact k
 |tok b=>exact ⟨k.1,h.2 _ _ k.2⟩
mutual
theorem AH.mono {I J:Mem} (h:I.le J):∀(v:V) (c:Value),AH I v c->AH J v c
 | .BD,_,_=>by simp only [AH]
 | .bool b,c,k=>by simpa only [AH] using k
 | .int _ n,c,k=>by simpa only [AH] using k
 | .str s,c,k=>by simpa only [AH] using k
 | .agg cs,c,k=>by
   simp only [AH] at k |-
   obtain ⟨vs,e,k⟩:=k
   exact ⟨vs,e,Ao.mono h cs vs k⟩
 | .Bj cs,c,k=>by
   simp only [AH] at k |-
   obtain ⟨vs,e,k⟩:=k
   exact ⟨vs,e,Ao.mono h cs vs k⟩
 | .slice sz es own,c,k=>by
   simp only [AH] at k |-
   obtain ⟨a,cap,e,h1,h2,h3,h4,U⟩:=k
   refine ⟨a,cap,e,h1,h2,h3,h4.mono h,?_⟩
   cases a with
   |none=>exact U
   |some ad=>exact ⟨U.1,B8.mono h sz ad.block es ad.off U.2⟩
 | .ptr _ _,c,k=>by simpa only [AH] using k
 | .B3 _ _,c,k=>by simp only [AH] at k
 | .FY e off,c,k=>by
   simp only [AH] at k |-
   obtain ⟨b,o,e1,k⟩:=k
   exact ⟨b,o,e1,Fv.mono h b e o k⟩
 | .DR,c,k=>by simpa only [AH] using k
 | .func f a cap,c,k=>by
   simp only [AH] at k |-
   obtain ⟨az,cs,e,k1,k2⟩:=k
   exact ⟨az,cs,e,Ao.mono h a az k1,Ao.mono h cap cs k2⟩
 | .Ar,c,k=>by simpa only [AH] using k
 | .iface t v,c,k=>by
   simp only [AH] at k |-
   obtain ⟨c',e,k⟩:=k
   exact ⟨c',e,AH.mono h v c' k⟩
 | .EJ,c,k=>by simpa only [AH] using k
 | .OC _ _,c,k=>by simp only [AH] at k
 | .Fp _ _ _ _,c,k=>by simpa only [AH] using k
 | .XX _,c,k=>by simpa only [AH] using k
theorem Ao.mono {I J:Mem} (h:I.le J):∀(l:List V) (vs:List Value),Ao I l vs->Ao J l vs
 |[],vs,k=>by simpa only [Ao] using k
 |v::r,vs,k=>by
  simp only [Ao] at k |-
  obtain ⟨c,s,e,k1,U⟩:=k
  exact ⟨c,s,e,AH.mono h v c k1,Ao.mono h r s U⟩
theorem Fv.mono {I J:Mem} (h:I.le J) (b:Nat):∀(l:List V) (o:Nat),Fv I b o l->Fv J b o l
 |[],o,k=>by simp only [Fv]
 |v::r,o,k=>by
  simp only [Fv] at k |-
  obtain ⟨⟨c,k1,U⟩,k3⟩:=k
  exact ⟨⟨c,h.1 _ _ _ k1,AH.mono h v c U⟩,Fv.mono h b r (o+1) k3⟩
theorem B8.mono {I J:Mem} (h:I.le J) (sz b:Nat):∀(l:List (List V)) (o:Nat),B8 I sz b o l->B8 J sz b o l
 |[],o,k=>by simp only [B8]
 |v::r,o,k=>by
  simp only [B8] at k |-
  exact ⟨⟨k.1.1,Fv.mono h b v o k.1.2⟩,B8.mono h sz b r (o+sz) k.2⟩
end
theorem AH.Jl {I:Mem}:∀{v:V} {c:Value},AH I v c->AH I v.Jl c
 | .slice sz es own,c,k=>by
   simp only [V.Jl,AH] at k |-
   obtain ⟨a,cap,e,U,h2,h3,h4,h5⟩:=k
   exact ⟨a,cap,e,U,h2,h3,trivial,h5⟩
 | .BD,_,k| .bool _,_,k| .int _ _,_,k| .str _,_,k| .agg _,_,k| .Bj _,_,k| .ptr _ _,_,k| .B3 _ _,_,k| .FY _ _,_,k| .DR,_,k
 | .func _ _ _,_,k| .Ar,_,k| .iface _ _,_,k| .EJ,_,k| .OC _ _,_,k| .Fp _ _ _ _,_,k| .XX _,_,k=>k
theorem Ao.map {I:Mem} {f:V->V} (hf:∀v c,AH I v c->AH I (f v) c):∀{l:List V} {vs:List Value},Ao I l vs->Ao I (l.map f) vs
 |[],vs,k=>by simp_all
 |v::r,vs,k=>by
  simp only [Ao,List.map_cons] at k |-
  obtain ⟨c,s,e,k1,U⟩:=k
  exact ⟨c,s,e,hf v c k1,Ao.map hf U⟩
theorem AH.sH {I:Mem} {v:V} {c:Value} (k:AH I v c):AH I v.sH c:=by
 cases v with
 |agg cs=>
  simp only [V.sH,AH] at k |-
  obtain ⟨vs,e,k⟩:=k
  exact ⟨vs,e,Ao.map (λ_ _=>AH.Jl) k⟩
 |slice sz es own=>exact AH.Jl k
 |_=>exact k
theorem AH.wk {I:Mem} {v:V} {c:Value} (k:AH I v c):AH I v.wk c:=by
 cases v with
 |agg cs=>exact AH.sH k
 |Bj cs=>
  simp only [V.wk,AH] at k |-
  obtain ⟨vs,e,k⟩:=k
  exact ⟨vs,e,Ao.map (λ_ _=>AH.sH) k⟩
 |slice sz es own=>exact AH.Jl k
 |_=>exact k
theorem Ao.length {I:Mem}:∀{l:List V} {vs:List Value},Ao I l vs->l.length=vs.length
 |[],vs,k=>by simp only [Ao] at k;simp_all
 |v::r,vs,k=>by
  simp only [Ao] at k
  obtain ⟨c,s,e,k1,U⟩:=k
  subst e
  simp [Ao.length U]
theorem Ao.get {I:Mem}:∀{l:List V} {vs:List Value} {i:Nat} {v:V},Ao I l vs->l[i]? =some v->∃c,vs[i]? =some c/\AH I v c
 |[],vs,i,v,k,h=>by simp at h
 |u::r,vs,i,v,k,h=>by
  simp only [Ao] at k
  obtain ⟨c,s,e,k1,U⟩:=k
  subst e
  cases i with
  |zero=>simp_all
  |succ i=>simp at h;obtain ⟨c',h1,h2⟩:=Ao.get U h;simp_all
theorem Ao.append {I:Mem}:∀{l r:List V} {vs us:List Value},Ao I l vs->Ao I r us->Ao I (l++r) (vs++us)
 |[],r,vs,us,k,h=>by simp only [Ao] at k;simp_all
 |v::l,r,vs,us,k,h=>by
  simp only [Ao] at k
  obtain ⟨c,s,e,k1,U⟩:=k
  subst e
  simp only [List.cons_append,Ao]
  exact ⟨c,s++us,rfl,k1,Ao.append U h⟩
theorem Ao.take {I:Mem}:∀{l:List V} {vs:List Value} (n:Nat),Ao I l vs->Ao I (l.take n) (vs.take n)
 |[],vs,n,k=>by simp only [Ao] at k;subst k;simp [Ao]
 |v::l,vs,0,k=>by rfl
 |v::l,vs,n+1,k=>by
  simp only [Ao] at k
  obtain ⟨c,s,e,k1,U⟩:=k
  subst e
  simp only [List.take_succ_cons,Ao]
  exact ⟨c,_,rfl,k1,Ao.take n U⟩
theorem Ao.drop {I:Mem}:∀{l:List V} {vs:List Value} (n:Nat),Ao I l vs->Ao I (l.drop n) (vs.drop n)
 |[],vs,n,k=>by simp only [Ao] at k;subst k;simp [Ao]
 |v::l,vs,0,k=>by simp_all
 |v::l,vs,n+1,k=>by
  simp only [Ao] at k
  obtain ⟨c,s,e,k1,U⟩:=k
  subst e
  simpa using Ao.drop n U
theorem B8.get {I:Mem} {sz b:Nat}:∀{l:List (List V)} {o i:Nat} {e:List V},B8 I sz b o l->l[i]? =some e->e.length=sz/\Fv I b (o+i*sz) e
 |[],o,i,v,k,h=>by simp at h
 |u::r,o,i,v,k,h=>by
  simp only [B8] at k
  cases i with
  |zero=>simp_all
  |succ i=>
   simp at h
   have:=B8.get k.2 h
   grind
theorem B8.drop {I:Mem} {sz b:Nat}:∀{l:List (List V)} {o:Nat} (n:Nat),B8 I sz b o l->B8 I sz b (o+n*sz) (l.drop n)
 |[],o,n,k=>by simp [B8]
 |v::l,o,0,k=>by simp_all
 |v::l,o,n+1,k=>by
  simp only [B8] at k
  rw [show o+(n+1)*sz=o+sz+n*sz by grind]
  simpa using B8.drop n k.2
theorem B8.take {I:Mem} {sz b:Nat}:∀{l:List (List V)} {o:Nat} (n:Nat),B8 I sz b o l->B8 I sz b o (l.take n)
 |[],o,n,k=>by grind
 |v::l,o,0,k=>by simp [B8]
 |v::l,o,n+1,k=>by
  simp only [B8,List.take_succ_cons] at k |-
  exact ⟨k.1,B8.take n k.2⟩
theorem B8.append {I:Mem} {sz b:Nat}:∀{l r:List (List V)} {o:Nat},B8 I sz b o l->B8 I sz b (o+l.length*sz) r->B8 I sz b o (l++r)
 |[],r,o,k,h=>by simp_all
 |v::l,r,o,k,h=>by
  simp only [B8,List.cons_append] at k |-
  refine ⟨k.1,B8.append k.2 ?_⟩
  grind
def AQ (I:Mem) (β:Nat->Option Nat):V->Value->Prop
 | .B3 id off,c=>∃b,β id=some b/\c=.pointer (some ⟨b,off,none⟩)
 |v,c=>AH I v c
theorem AQ.of {I:Mem} {β:Nat->Option Nat} {v:V} {c:Value} (h:AH I v c):AQ I β v c:=by
 cases v<;>first|exact h|exact (by simp only [AH] at h)
theorem AQ.mono {I J:Mem} (h:I.le J) {β:Nat->Option Nat} {v:V} {c:Value} (k:AQ I β v c):AQ J β v c:=by
 cases v<;>first|exact k|exact AH.mono h _ _ k
structure B7 (I:Mem) (st:St) (w:World):Prop where
 cell:∀b o v,I.cell b o=some v->w.cell? ⟨b,o,none⟩=some v
 shape:∀b n,I.shape b=some n->∃c ty,w.heap[b]? =some (.cells c ty (0,0))/\c.size=n
 box:∀b cs,st.box b=some cs->∃(vs:List Value) (ty:TypeId),w.heap[b]? =some (.cells vs.toArray ty (0,0))/\Ao I cs vs
 HD:∀b,st.box b≠none->(∀o,I.cell b o=none)/\st.hw b=none/\I.shape b=none
 hw:∀b h,st.hw b=some h->b<w.heap.size/\∀o,h<=o->I.cell b o=none
 SP:cQ I.cell I.shape
structure Fr (I0:Mem) (st0:St) (w0:World) (I:Mem) (st:St) (w:World):Prop where
 os:w.os=w0.os
 tape:w.tape=w0.tape
 output:w.output=w0.output
 size:w0.heap.size<=w.heap.size
 KB:∀b,b<w0.heap.size->st0.box b=none->st0.hw b=none->w.heap[b]? =w0.heap[b]?
 le:I0.le I
 new:∀b o,I0.cell b o=none->I.cell b o≠none->w0.heap.size<=b\/st0.box b≠none\/st0.hw b≠none
 JI:∀b,I0.shape b=none->I.shape b≠none->w0.heap.size<=b\/st0.box b≠none\/st0.hw b≠none
 J9:∀b,(st.box b≠none\/st.hw b≠none)->w0.heap.size<=b\/st0.box b≠none\/st0.hw b≠none
theorem Fr.refl {I:Mem} {st:St} {w:World}:Fr I st w I st w:=
 ⟨rfl,rfl,rfl,Nat.le_refl _,λ_ _ _ _=>rfl,Mem.le_refl _,λ_ _ h k=>absurd h k,λ_ h k=>absurd h k,λ_ h=>.inr h⟩
theorem Fr.trans {I0 I1 I2:Mem} {s0 s1 s2:St} {w0 w1 w2:World} (h:Fr I0 s0 w0 I1 s1 w1) (k:Fr I1 s1 w1 I2 s2 w2):Fr I0 s0 w0 I2 s2 w2:=by
 refine ⟨k.os.trans h.os,k.tape.trans h.tape,k.output.trans h.output,Nat.le_trans h.size k.size,?_,Mem.le_trans h.le k.le,?_,?_,?_⟩
 .intro b hb h1 h2
  have e1:s1.box b=none:=by
   cases hh:s1.box b with
   |none=>rfl
   |some c=>rcases h.J9 b (.inl (by rw [hh];simp)) with h|h|h<;>first|omega|contradiction
  have e2:s1.hw b=none:=by
   cases hh:s1.hw b with
   |none=>rfl
   |some c=>rcases h.J9 b (.inr (by rw [hh];simp)) with h|h|h<;>first|omega|contradiction
  rw [k.KB b (Nat.lt_of_lt_of_le hb h.size) e1 e2,h.KB b hb h1 h2]
 .intro b o h1 h2
  cases hh:I1.cell b o with
  |some v=>exact h.new b o h1 kw
  |none=>
   rcases k.new b o hh h2 with U|U|U
   .exact .inl (Nat.le_trans h.size U)
   .exact h.J9 b (.inl U)
   .exact h.J9 b (.inr U)
 .intro b h1 h2
  cases hh:I1.shape b with
  |some v=>exact h.JI b h1 kw
  |none=>
   rcases k.JI b hh h2 with U|U|U
   .exact .inl (Nat.le_trans h.size U)
   .exact h.J9 b (.inl U)
   .exact h.J9 b (.inr U)
 .intro b hb
  rcases k.J9 b hb with U|U|U
  .exact .inl (Nat.le_trans h.size U)
  .exact h.J9 b (.inl U)
  .exact h.J9 b (.inr U)
theorem KJ {cs:List V} {off:Nat} {ty:Option Ty} {K:V->Prop} (h:CY cs off ty K):NA cs=true:=(As.1 h).1
theorem UH {cs new:List V} {off:Nat} {K:List V->Prop} (h:Cg cs off new K):NA cs=true:=(As.1 h).1
def Laid (I:Mem) (o:Option Obj) (cs:List V):Prop:=
 (∃(vs:List Value) (ty:TypeId),o=some (.cells vs.toArray ty (0,0))/\Ao I cs vs)\/∃(s:List UInt8) (pos:Nat),cs=[.OC s pos]/\s.length<C9/\o=some (.stringIter ⟨s.toArray⟩ pos)
theorem Laid.mono {I J:Mem} {o:Option Obj} {cs:List V} (h:Laid I o cs) (hl:I.le J):Laid J o cs:=by
 rcases h with ⟨vs,ty,U,h2⟩|h
 .exact .inl ⟨vs,ty,U,Ao.mono hl _ _ h2⟩
 .exact .inr h
theorem Laid.cells {I:Mem} {o:Option Obj} {cs:List V} (h:Laid I o cs) (hn:NA cs=true):∃(vs:List Value) (ty:TypeId),o=some (.cells vs.toArray ty (0,0))/\Ao I cs vs:=by
 rcases h with h|⟨s,pos,rfl,_⟩
 .exact h
 .cases hn
structure G9 (D:List Deferred) (B:Nat) (I:Mem) (β:Nat->Option Nat) (env:Env) (st:St) (a:Act) (w:World):Prop where
 size:a.tmps.size=env.sz
 tmps:∀t v,assoc env.tmps t=some v->AQ I β v (a.tmps.getD t undef)
 box:∀id cs,assoc env.boxes id=some cs->∃b:Nat,β id=some b/\Laid I w.heap[b]? cs
 BG:∀id b,β id=some b->id<env.BG
 inj:∀i j b,β i=some b->β j=some b->i=j
 sep:∀id b,β id=some b->B<=b/\b<w.heap.size/\(∀o,I.cell b o=none)/\I.shape b=none/\st.box b=none/\st.hw b=none
 defers:a.defers=D
structure Rel (D:List Deferred) (I0:Mem) (st0:St) (w0:World) (I:Mem) (β:Nat->Option Nat) (env:Env) (st:St) (a:Act) (w:World):Prop where
 fr:Fr I0 st0 w0 I st w
 s:B7 I st w
 f:G9 D w0.heap.size I β env st a w
section
variable {D:List Deferred} {I0 I:Mem} {st0 st:St} {w0 w w':World} {β:Nat->Option Nat} {env:Env} {a:Act}
structure HB (w w':World):Prop where
 os:w'.os=w.os
 tape:w'.tape=w.tape
 output:w'.output=w.output
 size:w.heap.size<=w'.heap.size
 KB:∀b,b<w.heap.size->w'.heap[b]? =w.heap[b]?
theorem HB.drew (w:World):HB w w.drew:=⟨rfl,rfl,rfl,Nat.le_refl _,λ_ _=>rfl⟩
theorem HB.alloc (w:World) (o:Obj):HB w (w.alloc o):=
 ⟨rfl,rfl,rfl,GT,λb hb=>by simp only [World.alloc,Array.getElem?_push];grind⟩
theorem GY {w:World} {b:Nat} {o:Obj} (h:w.heap[b]? =some o):b<w.heap.size:=by grind
theorem IJ {w:World} {b o:Nat} {v:Value} (h:w.cell? ⟨b,o,none⟩=some v):b<w.heap.size:=World.block_lt_of_cell? _ _ h
theorem Gs {w w':World} {b o:Nat} (h:w'.heap[b]? =w.heap[b]?):w'.cell? ⟨b,o,none⟩=w.cell? ⟨b,o,none⟩:=by
 simp only [World.cell?,h]
theorem B7.IG (h:B7 I st w) (g:HB w w'):B7 I st w' where
 cell b o v k:=by have:=h.cell b o v k;rw [Gs (g.KB b (IJ this))];omega
 shape b n k:=by obtain ⟨c,ty,U,h2⟩:=h.shape b n k;exact ⟨c,ty,by rw [g.KB b (GY U)];exact U,h2⟩
 box b cs k:=by obtain ⟨vs,ty,U,h2⟩:=h.box b cs k;exact ⟨vs,ty,by rw [g.KB b (GY U)];exact U,h2⟩
 HD:=h.HD
 hw b n k:=⟨Nat.lt_of_lt_of_le (h.hw b n k).1 g.size,(h.hw b n k).2⟩
 SP:=h.SP
theorem Fr.IG (h:Fr I0 st0 w0 I st w) (g:HB w w'):Fr I0 st0 w0 I st w' where
 os:=g.os.trans h.os
 tape:=g.tape.trans h.tape
 output:=g.output.trans h.output
 size:=Nat.le_trans h.size g.size
 KB b hb U h2:=(g.KB b (Nat.lt_of_lt_of_le hb h.size)).trans (h.KB b hb U h2)
 le:=h.le
 new:=h.new
 JI:=h.JI
 J9:=h.J9
theorem G9.IG {B:Nat} (h:G9 D B I β env st a w) (g:HB w w'):G9 D B I β env st a w' where
 size:=h.size
 tmps:=h.tmps
 box id cs k:=by obtain ⟨b,U,h1⟩:=h.box id cs k;exact ⟨b,U,by rw [g.KB b (h.sep id b U).2.1];exact h1⟩
 BG:=h.BG
 inj:=h.inj
 sep id b k:=⟨(h.sep id b k).1,Nat.lt_of_lt_of_le (h.sep id b k).2.1 g.size,(h.sep id b k).2.2⟩
 defers:=h.defers
theorem Rel.IG (h:Rel D I0 st0 w0 I β env st a w) (g:HB w w'):Rel D I0 st0 w0 I β env st a w':=⟨h.fr.IG g,h.s.IG g,h.f.IG g⟩
theorem heap_alloc_new (w:World) (o:Obj):(w.alloc o).heap[w.heap.size]? =some o:=by
 simp only [World.alloc,Array.getElem?_push,if_true]
theorem qb (h:B7 I st w) {b:Nat} (k:st.box b≠none\/st.hw b≠none):b<w.heap.size:=by
 rcases k with k|k
 .cases hb:st.box b with
  |none=>simp_all
  |some cs=>obtain ⟨vs,ty,U,_⟩:=h.box b cs hb;grind
 .cases hb:st.hw b with
  |none=>simp_all
  |some n=>exact (h.hw b n hb).1
theorem CU (h:B7 I st w):st.fresh w.heap.size:=by
 constructor
 .cases hb:st.box w.heap.size with
  |none=>rfl
  |some cs=>exact absurd (qb h (.inl kw)) (Nat.lt_irrefl _)
 .cases hb:st.hw w.heap.size with
  |none=>rfl
  |some cs=>exact absurd (qb h (.inr kw)) (Nat.lt_irrefl _)
theorem Ju (h:B7 I st w) (o:Nat):I.cell w.heap.size o=none:=by
 cases hb:I.cell w.heap.size o with
 |none=>rfl
 |some v=>exact absurd (IJ (h.cell _ _ _ hb)) (Nat.lt_irrefl _)
theorem Ks (h:B7 I st w):I.shape w.heap.size=none:=by
 cases hb:I.shape w.heap.size with
 |none=>rfl
 |some v=>obtain ⟨c,ty,U,_⟩:=h.shape _ _ hb;simp_all
theorem Rel.V1 (h:Rel D I0 st0 w0 I β env st a w) {cs:List V} {ob:Obj} (k:Laid I (some ob) cs) {x n:Nat} (hx:β x=none) (hn:x<n) (hle:env.BG<=n):
 Rel D I0 st0 w0 I (λi=>if i=x then some w.heap.size else β i) {env with boxes:=(x,cs)::env.boxes,BG:=n} st a (w.alloc ob):=by
 have g:=HB.alloc w ob
 have h':=h.IG g
 have hne:∀id b,β id=some b->id≠x:=λid b e=>by grind
 refine ⟨h'.fr,h'.s,{h'.f with tmps:=?_,box:=?_,BG:=?_,inj:=?_,sep:=?_}⟩
 .intro t v e
  have:=h.f.tmps t v e
  cases v<;>first
   |exact this
   |(obtain ⟨b,h1,h2⟩:=this;exact ⟨b,(if_neg (hne _ _ h1)).trans h1,h2⟩)
 .intro id cs' e
  rw [Bf] at e
  cases hb:Nat.beq x id with
  |true=>
   rw [hb] at e
   have:=Nat.eq_of_beq_eq_true hb
   subst this
   simp only [cond_true,Option.some.injEq] at e
   subst e
   exact ⟨_,if_pos rfl,by rw [heap_alloc_new w _];exact k⟩
  |false=>
   rw [hb] at e
   obtain ⟨b,h1,h2⟩:=h'.f.box id cs' e
   simp_all
 .intro id b e
  split at e
  .simp_all
  .exact Nat.lt_of_lt_of_le (h.f.BG id b e) hle
 .intro i j b U e2
  split at U<;>split at e2
  .omega
  .injection U with U;subst U;exact absurd (h.f.sep _ _ e2).2.1 (Nat.lt_irrefl _)
  .injection e2 with e2;subst e2;exact absurd (h.f.sep _ _ U).2.1 (Nat.lt_irrefl _)
  .exact h.f.inj i j b U e2
 .intro id b e
  split at e
  .injection e with e
   subst e
   exact ⟨h.fr.size,GT,Ju h.s,Ks h.s,(CU h.s).1,(CU h.s).2⟩
  .exact h'.f.sep id b e
theorem Rel.YQ (h:Rel D I0 st0 w0 I β env st a w) {cs:List V} {vs:List Value} (k:Ao I cs vs) (ty:TypeId) {x n:Nat} (U:β x=none) (hn:x<n) (hle:env.BG<=n):
 Rel D I0 st0 w0 I (λi=>if i=x then some w.heap.size else β i) {env with boxes:=(x,cs)::env.boxes,BG:=n} st a (w.alloc (.cells vs.toArray ty)):=h.V1 (.inl ⟨vs,ty,rfl,k⟩) U hn hle
theorem Rel.iC (h:Rel D I0 st0 w0 I β env st a w) {cs:List V} {vs:List Value} (k:Ao I cs vs) (ty:TypeId):
 Rel D I0 st0 w0 I (λi=>if i=env.BG then some w.heap.size else β i) {env with boxes:=(env.BG,cs)::env.boxes,BG:=env.BG+1} st a (w.alloc (.cells vs.toArray ty)):=
 h.YQ k ty (by
  cases e:β env.BG with
  |none=>rfl
  |some b=>exact absurd (h.f.BG _ _ e) (Nat.lt_irrefl _)) (Nat.lt_succ_self _) (Nat.le_succ _)
theorem Rel.Ke (h:Rel D I0 st0 w0 I β env st a w) {cs:List V} {vs:List Value} (k:Ao I cs vs) (ty:TypeId):
 Rel D I0 st0 w0 I β env (st.Aa w.heap.size cs) a (w.alloc (.cells vs.toArray ty)):=by
 have g:=HB.alloc w (.cells vs.toArray ty)
 have U:=h.IG g
 refine ⟨{U.fr with J9:=?_},{U.s with box:=?_,HD:=?_},{U.f with sep:=?_}⟩
 .intro b hb
  by_cases e:b=w.heap.size
  .exact .inl (by rw [e];exact h.fr.size)
  .refine h.fr.J9 b ?_
   simpa [St.Aa,e] using hb
 .intro b cs' e
  simp only [St.Aa] at e
  split at e
  .rename_i hb;subst hb;injection e with e;subst e;exact ⟨vs,ty,heap_alloc_new w _,k⟩
  .exact U.s.box b cs' e
 .intro b e
  by_cases hb:b=w.heap.size
  .subst hb;exact ⟨Ju h.s,(CU h.s).2,Ks h.s⟩
  .exact h.s.HD b (by simpa [St.Aa,hb] using e)
 .intro id b e
  obtain ⟨h1,h2,h3,h4,h5,h6⟩:=h.f.sep id b e
  have:b≠w.heap.size:=AC
  exact ⟨h1,UV,h3,h4,by simp [St.Aa,this,h5],h6⟩
def Mem.add (I:Mem) (b h:Nat) (vs:List Value) (n:Nat):Mem where
 cell:=λx o=>if x=b/\h<=o/\o<h+vs.length then vs[o - h]? else I.cell x o
 shape:=λx=>if x=b then some n else I.shape x
theorem Mem.Nw {I:Mem} {b h n:Nat} {vs:List Value} (k:∀o,h<=o->I.cell b o=none) (U:I.shape b=none\/I.shape b=some n):I.le (I.add b h vs n):=by
 constructor
 .intro x o v e
  simp only [Mem.add]
  grind
 .intro x m e
  simp only [Mem.add]
  grind
theorem Fv.add {I:Mem} {b h n:Nat} {vs:List Value}:∀(l:List V) (us:List Value) (o:Nat),Ao I l us->I.le (I.add b h vs n)->
 (∀j c,us[j]? =some c->(I.add b h vs n).cell b (o+j)=some c)->Fv (I.add b h vs n) b o l
 |[],us,o,k,hl,U=>by simp only [Fv]
 |v::r,us,o,k,hl,U=>by
  simp only [Ao] at k
  obtain ⟨c,s,e,k1,k2⟩:=k
  subst e
  simp only [Fv]
  refine ⟨⟨c,by simpa using U 0 c GT,AH.mono hl _ _ k1⟩,Fv.add r s (o+1) k2 hl λj c' hj=>?_⟩
  have:=U (j+1) c' kw
  grind
def BN (I:Mem) (sz:Nat):List (List V)->List Value->Prop
 |[],vs=>vs=[]
 |e::r,vs=>∃us s,vs=us++s/\e.length=sz/\Ao I e us/\BN I sz r s
theorem BN.length {I:Mem} {sz:Nat}:∀{l:List (List V)} {vs:List Value},BN I sz l vs->vs.length=l.length*sz
 |[],vs,k=>by simp only [BN] at k;simp_all
 |e::r,vs,k=>by
  simp only [BN] at k
  obtain ⟨us,s,U,h1,h2,h3⟩:=k
  subst U
  rw [List.length_append,<-Ao.length h2,h1,BN.length h3,List.length_cons,Nat.add_mul];omega
theorem B8.add {I:Mem} {b h n sz:Nat} {vs:List Value}:∀(l:List (List V)) (us:List Value) (o:Nat),BN I sz l us->I.le (I.add b h vs n)->
 (∀j c,us[j]? =some c->(I.add b h vs n).cell b (o+j)=some c)->B8 (I.add b h vs n) sz b o l
 |[],us,o,k,hl,U=>by simp only [B8]
 |e::r,us,o,k,hl,U=>by
  simp only [BN] at k
  obtain ⟨u1,s,e1,h1,h2,h3⟩:=k
  subst e1
  have hu:u1.length=sz:=by rw [<-Ao.length h2,h1]
  simp only [B8]
  refine ⟨⟨h1,Fv.add e u1 o h2 hl λj c hj=>U j c ?_⟩,B8.add r s (o+sz) h3 hl λj c hj=>?_⟩
  .grind
  .have:=U (sz+j) c (by grind)
   grind
theorem Mem.M1 {I:Mem} {b h n:Nat} {vs:List Value} {j:Nat} {c:Value} (hj:vs[j]? =some c):(I.add b h vs n).cell b (h+j)=some c:=by
 have U:j<vs.length:=by
  rcases Nat.lt_or_ge j vs.length with h|h
  .exact h
  .simp_all
 show (if b=b/\h<=h+j/\h+j<h+vs.length then vs[h+j - h]? else I.cell b (h+j))=some c
 simp_all
theorem G9.mem {B:Nat} {J:Mem} {st':St} (h:G9 D B I β env st a w) (U:I.le J)
 (hs:∀id b,β id=some b->(∀o,J.cell b o=none)/\J.shape b=none/\st'.box b=none/\st'.hw b=none):G9 D B J β env st' a w where
 size:=h.size
 tmps t v e:=(h.tmps t v e).mono U
 box id cs e:=by obtain ⟨b,h1,h2⟩:=h.box id cs e;exact ⟨b,h1,h2.mono U⟩
 BG:=h.BG
 inj:=h.inj
 sep id b e:=⟨(h.sep id b e).1,(h.sep id b e).2.1,hs id b e⟩
 defers:=h.defers
theorem Rel.newRow (h:Rel D I0 st0 w0 I β env st a w) (vs rest:List Value) (ty:TypeId):
 Rel D I0 st0 w0 (I.add w.heap.size 0 vs (vs.length+rest.length)) β env (st.BB w.heap.size vs.length) a (w.alloc (.cells (vs++rest).toArray ty)):=by
 have g:=HB.alloc w (.cells (vs++rest).toArray ty)
 have h':=h.IG g
 have hl:I.le (I.add w.heap.size 0 vs (vs.length+rest.length)):=Mem.Nw (λo _=>Ju h.s o) (.inl (Ks h.s))
 refine ⟨{h'.fr with le:=Mem.le_trans h.fr.le hl,new:=?_,JI:=?_,J9:=?_},⟨?_,?_,?_,?_,?_,TO hl.1 hl.2 h.s.SP⟩,G9.mem h'.f hl ?_⟩
 .intro b o h1 h2
  by_cases e:b=w.heap.size
  .exact .inl (by rw [e];exact h.fr.size)
  .exact h.fr.new b o h1 (by simpa [Mem.add,e] using h2)
 .intro b h1 h2
  by_cases e:b=w.heap.size
  .exact .inl (by rw [e];exact h.fr.size)
  .exact h.fr.JI b h1 (by simpa [Mem.add,e] using h2)
 .intro b hb
  by_cases e:b=w.heap.size
  .exact .inl (by rw [e];exact h.fr.size)
  .refine h.fr.J9 b ?_
   simpa [St.BB,e] using hb
 .intro b o v e
  simp only [Mem.add] at e
  split at e
  .rename_i hb
   obtain ⟨rfl,h1,h2⟩:=hb
   simp only [World.cell?,heap_alloc_new]
   grind
  .exact h'.s.cell b o v e
 .intro b n e
  simp only [Mem.add] at e
  split at e
  .rename_i hb;subst hb;injection e with e;subst e;exact ⟨_,ty,heap_alloc_new w _,GT⟩
  .exact h'.s.shape b n e
 .intro b cs e
  obtain ⟨us,ty',h1,h2⟩:=h'.s.box b cs e
  exact ⟨us,ty',h1,Ao.mono hl _ _ h2⟩
 .intro b e
  have U:b≠w.heap.size:=λhb=>e (by rw [hb];exact (CU h.s).1)
  obtain ⟨h1,h2,h3⟩:=h.s.HD b e
  exact ⟨λo=>by simp [Mem.add,U,h1 o],by simp [St.BB,U,h2],by simp [Mem.add,U,h3]⟩
 .intro b n e
  simp only [St.BB] at e
  split at e
  .rename_i hb
   subst hb
   injection e with e
   subst e
   exact ⟨GT,λo ho=>by simp only [Mem.add];rw [if_neg AC];exact Ju h.s o⟩
  .rename_i hb
   exact ⟨(h'.s.hw b n e).1,λo ho=>by simp only [Mem.add];rw [if_neg (by simp [hb])];exact (h'.s.hw b n e).2 o ho⟩
 .intro id b e
  obtain ⟨h1,h2,h3,h4,h5,h6⟩:=h.f.sep id b e
  have U:b≠w.heap.size:=AC
  exact ⟨λo=>by simp [Mem.add,U,h3 o],by simp [Mem.add,U,h4],h5,by simp [St.BB,U,h6]⟩
theorem Rel.Gw {st':St} (h:Rel D I0 st0 w0 I β env st a w) (k:st'.le st):Rel D I0 st0 w0 I β env st' a w:=by
 have hb:∀b,st'.box b≠none->st.box b≠none:=λb e=>by
  cases U:st'.box b with
  |none=>simp_all
  |some c=>rw [k.1 b c U];simp
 have U:∀b,st'.hw b≠none->st.hw b≠none:=λb e=>by
  cases U:st'.hw b with
  |none=>simp_all
  |some c=>rw [k.2 b c U];simp
 have nb:∀b,st.box b=none->st'.box b=none:=λb e=>by grind
 have nh:∀b,st.hw b=none->st'.hw b=none:=λb e=>by grind
 refine ⟨{h.fr with J9:=λb e=>h.fr.J9 b (e.imp (hb b) (U b))},{h.s with box:=λb cs e=>h.s.box b cs (k.1 b cs e),HD:=λb e=>?_,hw:=λb n e=>h.s.hw b n (k.2 b n e)},
  {h.f with sep:=λid b e=>?_}⟩
 .obtain ⟨h1,h2,h3⟩:=h.s.HD b (hb b e);simp_all
 .obtain ⟨h1,h2,h3,h4,h5,h6⟩:=h.f.sep id b e;simp_all
theorem Rel.H0 {env':Env} (h:Rel D I0 st0 w0 I β env st a w) (k:env'.le env):
 Rel D I0 st0 w0 I (λid=>if (assoc env'.boxes id).isSome then β id else none) env' st a w:=by
 obtain ⟨k1,k2,k3,k4⟩:=k
 refine ⟨h.fr,h.s,⟨h.f.size.trans k1.symm,?_,?_,?_,?_,?_,h.f.defers⟩⟩
 .intro t v e
  rcases k2 t v e with rfl|⟨h1,h2⟩
  .exact AQ.of (v:=.BD) (by simp only [AH])
  .have:=h.f.tmps t v h1
   cases v<;>first
    |exact this
    |(obtain ⟨b,h3,h4⟩:=this;exact ⟨b,(if_pos (by simpa only [V.T4] using h2)).trans h3,h4⟩)
 .intro id cs e
  obtain ⟨b,h1,h2⟩:=h.f.box id cs (k3 id cs e)
  simp_all
 .intro id b e
  split at e
  .rename_i hs
   cases ha:assoc env'.boxes id with
   |none=>simp_all
   |some cs=>simp_all
  grind
 .intro i j b U e2
  split at U<;>split at e2<;>first|cases U;done|cases e2;done|exact h.f.inj i j b U e2
 .intro id b e
  split at e
  .exact h.f.sep id b e
  grind
theorem Rel.put (h:Rel D I0 st0 w0 I β env st a w) {v:V} {c:Value} (k:AQ I β v c) {t:Nat} (ht:t<env.sz):
 Rel D I0 st0 w0 I β {env with tmps:=(t,v)::env.tmps} st (a.put (some t) c) w:=by
 refine ⟨h.fr,h.s,{h.f with size:=?_,tmps:=?_,defers:=h.f.defers}⟩
 .simpa [Act.put] using h.f.size
 .intro t' v' e
  rw [Bf] at e
  cases hb:Nat.beq t t' with
  |true=>
   rw [hb] at e
   have:=Nat.eq_of_beq_eq_true hb
   subst this
   simp only [cond_true,Option.some.injEq] at e
   subst e
   have U:t<a.tmps.size:=by rw [h.f.size];exact ht
   simpa [Act.put,U] using k
  |false=>
   rw [hb] at e
   have hne:t≠t':=λx=>by simp_all
   have:=h.f.tmps t' v' e
   simpa [Act.put,Array.getElem?_setIfInBounds_ne hne] using this
theorem Rel.Zy (h:Rel D I0 st0 w0 I β env st a w) {id b:Nat} {cs cs':List V} {vs us:List Value} {ty:TypeId} (hb:β id=some b) (hw:w.heap[b]? =some (.cells vs.toArray ty (0,0)))
 (k:Ao I cs' us):Rel D I0 st0 w0 I β {env with boxes:=(id,cs')::env.boxes} st a (w.setRow b us.toArray):=by
 obtain ⟨s1,s2,s3,s4,s5,s6⟩:=h.f.sep id b hb
 have hn:=setRow_heap w b vs.toArray us.toArray ty (0,0) hw
 have ho:∀x,x≠b->(w.setRow b us.toArray).heap[x]? =w.heap[x]? :=λx U=>setRow_other w b x us.toArray U
 refine ⟨⟨h.fr.os,h.fr.tape,h.fr.output,by grind,λx U h1 h2=>?_,h.fr.le,h.fr.new,h.fr.JI,h.fr.J9⟩,⟨?_,?_,?_,h.s.HD,?_,h.s.SP⟩,⟨h.f.size,h.f.tmps,?_,h.f.BG,h.f.inj,?_,h.f.defers⟩⟩
 .rw [ho x AC];exact h.fr.KB x U h1 h2
 .intro x o v e
  have U:x≠b:=λU=>by simp_all
  rw [Gs (ho x U)];exact h.s.cell x o v e
 .intro x n e
  have U:x≠b:=λU=>by simp_all
  obtain ⟨c,ty',h1,h2⟩:=h.s.shape x n e
  simp_all
 .intro x n e
  have U:x≠b:=λU=>by simp_all
  obtain ⟨c,ty',h1,h2⟩:=h.s.box x n e
  simp_all
 .intro x n e
  exact ⟨by simpa using (h.s.hw x n e).1,(h.s.hw x n e).2⟩
 .intro id' c e
  rw [Bf] at e
  cases hq:Nat.beq id id' with
  |true=>
   rw [hq] at e
   have:=Nat.eq_of_beq_eq_true hq
   subst this
   simp only [cond_true,Option.some.injEq] at e
   subst e
   exact ⟨b,hb,.inl ⟨us,ty,hn,k⟩⟩
  |false=>
   rw [hq] at e
   obtain ⟨b',h1,h2⟩:=h.f.box id' c e
   have U:b'≠b:=λU=>by
    subst U
    have:=h.f.inj _ _ _ h1 hb
    simp_all
   simp_all
 .intro id' b' e
  obtain ⟨h1,h2,h3⟩:=h.f.sep id' b' e
  simp_all
theorem Rel.Ot (h:Rel D I0 st0 w0 I β env st a w) {b:Nat} {cs cs':List V} {vs us:List Value} {ty:TypeId} (hb:st.box b=some cs) (hw:w.heap[b]? =some (.cells vs.toArray ty (0,0)))
 (k:Ao I cs' us):Rel D I0 st0 w0 I β env (st.Aa b cs') a (w.setRow b us.toArray):=by
 obtain ⟨s3,s6,s4⟩:=h.s.HD b kw
 have hn:=setRow_heap w b vs.toArray us.toArray ty (0,0) hw
 have ho:∀x,x≠b->(w.setRow b us.toArray).heap[x]? =w.heap[x]? :=λx U=>setRow_other w b x us.toArray U
 have hd:=h.fr.J9 b (.inl kw)
 have nb:∀x,(st.Aa b cs').box x≠none->st.box x≠none:=λx e=>by
  by_cases U:x=b
  .simp_all
  .simpa [St.Aa,U] using e
 refine ⟨⟨h.fr.os,h.fr.tape,h.fr.output,by simpa using h.fr.size,λx U h1 h2=>?_,h.fr.le,h.fr.new,h.fr.JI,λx e=>h.fr.J9 x (e.imp (nb x) id)⟩,⟨?_,?_,?_,λx e=>h.s.HD x (nb x e),?_,h.s.SP⟩,⟨h.f.size,h.f.tmps,?_,h.f.BG,h.f.inj,?_,h.f.defers⟩⟩
 .have hne:x≠b:=λe=>by grind
  rw [ho x hne];exact h.fr.KB x U h1 h2
 .intro x o v e
  have U:x≠b:=λU=>by simp_all
  rw [Gs (ho x U)];exact h.s.cell x o v e
 .intro x n e
  have U:x≠b:=λU=>by simp_all
  obtain ⟨c,ty',h1,h2⟩:=h.s.shape x n e
  simp_all
 .intro x c e
  simp only [St.Aa] at e
  split at e
  .simp_all
  .rename_i U
   obtain ⟨c',ty',h1,h2⟩:=h.s.box x c e
   simp_all
 .intro x n e
  exact ⟨by simpa using (h.s.hw x n e).1,(h.s.hw x n e).2⟩
 .intro id' c e
  obtain ⟨b',h1,h2⟩:=h.f.box id' c e
  have U:b'≠b:=λU=>by
   subst U
   have:=(h.f.sep id' b' h1).2.2.2.2.1
   simp_all
  simp_all
 .intro id' b' e
  obtain ⟨h1,h2,h3,h4,h5,h6⟩:=h.f.sep id' b' e
  have U:b'≠b:=λU=>by simp_all
  exact ⟨h1,kw,h3,h4,by grind,h6⟩
theorem Rel.U3 (h:Rel D I0 st0 w0 I β env st a w) {b n m:Nat} {cur:List Value} {ty:TypeId} (hh:st.hw b=some n) (hw:w.heap[b]? =some (.cells cur.toArray ty (0,0))) (hs:I.shape b=some m)
 (vs:List Value) (hle:n+vs.length<=cur.length):
 Rel D I0 st0 w0 (I.add b n vs m) β env ((st.Dd b).BB b (n+vs.length)) a (w.setRow b (cur.take n++vs++cur.drop (n+vs.length)).toArray):=by
 have hf:=(h.s.hw b n hh).2
 have hl:I.le (I.add b n vs m):=Mem.Nw hf (.inr hs)
 have hn:=setRow_heap w b cur.toArray (cur.take n++vs++cur.drop (n+vs.length)).toArray ty (0,0) hw
 have ho:∀x,x≠b->(w.setRow b (cur.take n++vs++cur.drop (n+vs.length)).toArray).heap[x]? =w.heap[x]? :=λx U=>setRow_other w b x _ U
 have hd:=h.fr.J9 b (.inr kw)
 have hbx:st.box b=none:=by
  cases e:st.box b with
  |none=>rfl
  |some c=>have:=(h.s.HD b kw).2.1;simp_all
 have nh:∀x,((st.Dd b).BB b (n+vs.length)).hw x≠none->st.hw x≠none:=λx e=>by
  by_cases U:x=b
  .simp_all
  .simpa [St.BB,St.Dd,U] using e
 have hlen:(cur.take n++vs++cur.drop (n+vs.length)).length=cur.length:=UV
 refine ⟨⟨h.fr.os,h.fr.tape,h.fr.output,by simpa using h.fr.size,λx U h1 h2=>?_,Mem.le_trans h.fr.le hl,?_,?_,λx e=>h.fr.J9 x (e.imp id (nh x))⟩,⟨?_,?_,?_,?_,?_,TO hl.1 hl.2 h.s.SP⟩,
  ⟨h.f.size,λt v e=>(h.f.tmps t v e).mono hl,?_,h.f.BG,h.f.inj,?_,h.f.defers⟩⟩
 .have hne:x≠b:=λe=>by grind
  rw [ho x hne];exact h.fr.KB x U h1 h2
 .intro x o h1 h2
  by_cases e:x=b
  .simp_all
  .exact h.fr.new x o h1 (by simpa [Mem.add,e] using h2)
 .intro x h1 h2
  by_cases e:x=b
  .simp_all
  .exact h.fr.JI x h1 (by simpa [Mem.add,e] using h2)
 .intro x o v e
  simp only [Mem.add] at e
  split at e
  .rename_i U
   obtain ⟨rfl,h1,h2⟩:=U
   simp only [World.cell?,hn,Option.isSome_none,Bool.false_eq_true,if_false,List.getElem?_toArray]
   grind
  .rename_i U
   by_cases hxb:x=b
   .subst hxb
    have hc:=h.s.cell x o v e
    have hlt:o<n:=by
     rcases Nat.lt_or_ge o n with h'|h'
     .exact h'
     .simp_all
    simp only [World.cell?,hw,Option.isSome_none,Bool.false_eq_true,if_false,List.getElem?_toArray] at hc
    simp only [World.cell?,hn,Option.isSome_none,Bool.false_eq_true,if_false,List.getElem?_toArray]
    grind
   .rw [Gs (ho x hxb)];exact h.s.cell x o v e
 .intro x k e
  simp only [Mem.add] at e
  split at e
  .rename_i U
   subst U
   injection e with e
   subst e
   obtain ⟨c,ty',h1,h2⟩:=h.s.shape x _ hs
   simp_all
  .rename_i U
   obtain ⟨c,ty',h1,h2⟩:=h.s.shape x k e
   simp_all
 .intro x c e
  have U:x≠b:=λU=>by
   subst U
   rw [show ((st.Dd x).BB x (n+vs.length)).box x=st.box x from rfl,hbx] at e;cases e
  obtain ⟨c',ty',h1,h2⟩:=h.s.box x c e
  exact ⟨c',ty',kw,Ao.mono hl _ _ h2⟩
 .intro x e
  have U:x≠b:=λU=>e (by subst U;exact hbx)
  obtain ⟨h1,h2,h3⟩:=h.s.HD x e
  exact ⟨λo=>by simp [Mem.add,U,h1 o],by grind,by simp [Mem.add,U,h3]⟩
 .intro x k e
  simp only [St.BB,St.Dd] at e
  split at e
  .rename_i U
   subst U
   injection e with e
   subst e
   exact ⟨by grind,λo ho'=>by simp only [Mem.add];grind⟩
  .rename_i U
   first|rw [if_neg U] at e|skip
   exact ⟨by simpa using (h.s.hw x k e).1,λo ho'=>by simp only [Mem.add];rw [if_neg (by simp [U])];exact (h.s.hw x k e).2 o ho'⟩
 .intro id' c e
  obtain ⟨b',h1,h2⟩:=h.f.box id' c e
  have U:b'≠b:=λU=>by
   subst U
   have:=(h.f.sep id' b' h1).2.2.2.2.2
   simp_all
  exact ⟨b',h1,by rw [ho b' U];exact h2.mono hl⟩
 .intro id' b' e
  obtain ⟨h1,h2,h3,h4,h5,h6⟩:=h.f.sep id' b' e
  have U:b'≠b:=λU=>by simp_all
  exact ⟨h1,kw,λo=>by simp [Mem.add,U,h3 o],by simp [Mem.add,U,h4],h5,by grind⟩
theorem Rel.kv (h:Rel D I0 st0 w0 I β env st a w) {b n:Nat} {cur:List Value} {ty:TypeId} (hh:st.hw b=some n) (hw:w.heap[b]? =some (.cells cur.toArray ty (0,0)))
 (vs:List Value) (hle:n+vs.length<=cur.length):Rel D I0 st0 w0 I β env st a (w.setRow b (cur.take n++vs++cur.drop (n+vs.length)).toArray):=by
 have hf:=(h.s.hw b n hh).2
 have hn:=setRow_heap w b cur.toArray (cur.take n++vs++cur.drop (n+vs.length)).toArray ty (0,0) hw
 have ho:∀x,x≠b->(w.setRow b (cur.take n++vs++cur.drop (n+vs.length)).toArray).heap[x]? =w.heap[x]? :=λx hx=>setRow_other w b x _ hx
 have hd:=h.fr.J9 b (.inr kw)
 have hbx:st.box b=none:=by
  cases e:st.box b with
  |none=>rfl
  |some c=>have:=(h.s.HD b kw).2.1;simp_all
 have hlen:(cur.take n++vs++cur.drop (n+vs.length)).length=cur.length:=UV
 refine ⟨⟨h.fr.os,h.fr.tape,h.fr.output,by simpa using h.fr.size,λx hx U h2=>?_,h.fr.le,h.fr.new,h.fr.JI,h.fr.J9⟩,⟨?_,?_,?_,h.s.HD,λx k e=>⟨by simpa using (h.s.hw x k e).1,(h.s.hw x k e).2⟩,h.s.SP⟩,
  ⟨h.f.size,h.f.tmps,?_,h.f.BG,h.f.inj,?_,h.f.defers⟩⟩
 .have hne:x≠b:=λe=>by grind
  rw [ho x hne];exact h.fr.KB x hx U h2
 .intro x o v e
  by_cases hxb:x=b
  .subst hxb
   have hc:=h.s.cell x o v e
   have hlt:o<n:=by
    rcases Nat.lt_or_ge o n with h'|h'
    .exact h'
    .simp_all
   simp only [World.cell?,hw,Option.isSome_none,Bool.false_eq_true,if_false,List.getElem?_toArray] at hc
   simp only [World.cell?,hn,Option.isSome_none,Bool.false_eq_true,if_false,List.getElem?_toArray]
   grind
  .rw [Gs (ho x hxb)];exact h.s.cell x o v e
 .intro x k e
  obtain ⟨c,ty',U,h2⟩:=h.s.shape x k e
  by_cases hxb:x=b
  .subst hxb
   rw [hw] at U
   injection U with U
   injection U with U
   exact ⟨_,ty,hn,by rw [<-h2,<-U,List.size_toArray,List.size_toArray,hlen]⟩
  .exact ⟨c,ty',by rw [ho x hxb];exact U,h2⟩
 .intro x c e
  have hx:x≠b:=λhx=>by simp_all
  obtain ⟨c',ty',U,h2⟩:=h.s.box x c e
  exact ⟨c',ty',kw,h2⟩
 .intro id' c e
  obtain ⟨b',U,h2⟩:=h.f.box id' c e
  have hx:b'≠b:=λhx=>by
   subst hx
   have:=(h.f.sep id' b' U).2.2.2.2.2
   simp_all
  exact ⟨b',U,by rw [ho b' hx];exact h2⟩
 .intro id' b' e
  obtain ⟨U,h2,h3,h4,h5,h6⟩:=h.f.sep id' b' e
  simp_all
theorem Rel.called {I1:Mem} {U:St} {w1:World} (h:Rel D I0 st0 w0 I β env st a w) (f:Fr I st w I1 U w1) (s:B7 I1 U w1):Rel D I0 st0 w0 I1 β env U a w1:=by
 have key:∀id b,β id=some b->(∀o,I1.cell b o=none)/\U.box b=none/\U.hw b=none/\w1.heap[b]? =w.heap[b]? :=λid b e=>by
  obtain ⟨h1,h2,h3,h4,h5,h6⟩:=h.f.sep id b e
  refine ⟨λo=>?_,?_,?_,f.KB b h2 h5 h6⟩
  .cases hc:I1.cell b o with
   |none=>rfl
   |some v=>rcases f.new b o (h3 o) (by rw [hc];simp) with h|h|h<;>first|omega|contradiction
  .cases hc:U.box b with
   |none=>rfl
   |some v=>rcases f.J9 b (.inl (by rw [hc];simp)) with h|h|h<;>first|omega|contradiction
  .cases hc:U.hw b with
   |none=>rfl
   |some v=>rcases f.J9 b (.inr (by rw [hc];simp)) with h|h|h<;>first|omega|contradiction
 refine ⟨h.fr.trans f,s,⟨h.f.size,λt v e=>(h.f.tmps t v e).mono f.le,?_,h.f.BG,h.f.inj,?_,h.f.defers⟩⟩
 .intro id cs e
  obtain ⟨b,h1,h2⟩:=h.f.box id cs e
  exact ⟨b,h1,by rw [(key id b h1).2.2.2];exact h2.mono f.le⟩
 .intro id b e
  obtain ⟨h1,h2,h3,h4,h5,h6⟩:=h.f.sep id b e
  obtain ⟨k1,k2,k3,k4⟩:=key id b e
  refine ⟨h1,Nat.lt_of_lt_of_le h2 f.size,k1,?_,k2,k3⟩
  cases hc:I1.shape b with
  |none=>rfl
  |some v=>rcases f.JI b h4 (by rw [hc];simp) with h|h|h<;>first|omega|contradiction
end
def Mem.empty:Mem:=⟨λ_ _=>none,λ_=>none⟩
theorem Mem.empty_le (I:Mem):Mem.empty.le I:=⟨λ_ _ _ h=>(by cases h),λ_ _ h=>(by cases h)⟩
def RP:TypeDesc->Bool
 | .struct _| .array _ _=>true
 |_=>false
def aj (P:Program) (t:TypeId) (z:List V):Bool:=
 !P.stoodInHeld t&& !P.eqGuardType P.depth t&&match P.underlying t with
 |some (.struct fs)=>fs.size==z.length&&(List.range z.length).all λi=>match fs.toList[i]?,z[i]? with
  | some f, some v => f.name != "_" && f.offset == i && P.plainKey f.type && match v, P.underlying f.type with
    | .int _ _,some (.int _)=>true
    | .str _,some .string=>true
    | .bool _,some .bool=>true
    |_,_=>false
  |_,_=>false
 |_=>false
def M0 (P:Program) (t:TypeId):Ty->Prop
 | .sc z=>∃i d c,P.info? t=some i/\P.underlying t=some d/\RP d=false/\i.size=1/\i.zero=some c/\AH Mem.empty z c/\c.cells=#[c]/\z.known=true/\z.cells=[z]/\
    (match z with| .str _=>d=.string| .EJ=>∃ms,d=.interface ms| .int k _=>d=.int k| .bool _=>d=.bool|_=>∀ms,d≠.interface ms)
 | .slice e sz bytes=>∃i j c,P.info? t=some i/\P.underlying t=some (.slice e)/\i.size=1/\i.zero=some (.slice none 0 0)/\P.info? e=some j/\j.size=sz/\j.bytes=bytes/\0<sz/\j.zero=some c/\c.cells.size=sz
 | .struct U z=>∃i fields,∃zs:List Value,P.info? t=some i/\P.underlying t=some (.struct fields)/\i.size=z.length/\i.zero=some (.agg zs.toArray)/\Ao Mem.empty z zs/\ 
    fields.size=U.length/\(∀(n o s:Nat),U[n]? =some (o,s)->∃(f:Field) (j:TypeInfo),(fields[n]? =some f/\f.offset=o/\P.info? f.type=some j/\j.size=s))/\
    (aq z=true->aj P t z=true)/\(∀n o:Nat,U[n]? =some (o,1)->∃(f:Field) (d:TypeDesc),fields[n]? =some f/\f.offset=o/\P.underlying f.type=some d/\RP d=false)
 | .arr U z=>∃i n e j,∃zs:List Value,P.info? t=some i/\P.underlying t=some (.array n e)/\i.size=z.length/\i.zero=some (.agg zs.toArray)/\Ao Mem.empty z zs/\P.info? e=some j/\
    (∀(m o s:Nat),U[m]? =some (o,s)->o=m*j.size/\s=j.size/\m<n)
def Gc (P:Program) (T:List (Nat×Ty)):Prop:=∀t ty,assoc T t=some ty->M0 P t ty
section
variable {D:List Deferred} {P:Program} {T:List (Nat×Ty)} {I:Mem} {β:Nat->Option Nat} {env:Env} {st:St} {a:Act} {w:World} {B:Nat}
theorem G9.get (h:G9 D B I β env st a w) (t:Nat):AQ I β (env.get t) (a.tmps.getD t undef):=by
 simp only [Env.get]
 cases U:assoc env.tmps t with
 |none=>exact AQ.of (by simp only [AH])
 |some v=>exact h.tmps t v U
theorem dI (c:Value):AH I (Pj c) c:=by
 unfold Pj
 split
 .rfl
 .rfl
 .rename_i l
  split
  .rename_i h
   simp only [AH]
   exact ⟨trivial,by simpa [Nat.blt_eq,C9] using h⟩
  .simp only [AH]
 all_goals simp only [AH]
theorem G9.eval (h:G9 D B I β env st a w) (x:Operand):AQ I β (env.eval x) (a.eval x):=by
 cases x with
 |tmp t=>exact h.get t
 |const c=>exact AQ.of (dI c)
 |global g=>exact AQ.of (v:=.BD) (by simp only [AH])
 |func f=>exact AQ.of (v:=.func f [] []) (by simp only [AH];exact ⟨[],[],rfl,H1,H1⟩)
theorem KI {x:Operand} (h:FA x=true):x=.const (.slice none 0 0):=by
 unfold FA at h
 grind
theorem IY {sz:Nat} (h:0<sz) (own:AA) (U:own=.full\/own=.any):AH I (.slice sz [] own) (.slice none 0 0):=by
 simp only [AH]
 exact ⟨none,0,rfl,Nat.le_refl _,by simp [C9],h,by rcases U with rfl|rfl;exact rfl;trivial,rfl⟩
theorem G9.B4 (hT:Gc P T) (h:G9 D B I β env st a w) (t:TypeId) (x:Operand):AQ I β (env.B4 T t x) (a.eval x):=by
 simp only [Env.B4]
 cases hn:FA x with
 |false=>exact h.eval x
 |true=>
  have:=KI hn
  subst this
  simp only
  split
  .rename_i e sz b ht
   obtain ⟨i,j,c,_,_,_,_,_,_,_,U,_⟩:=hT t _ ht
   exact AQ.of (IY U _ (.inl rfl))
  .exact AQ.of (v:=.BD) (by simp only [AH])
theorem AQ.rep {v:V} {c:Value} (h:AQ I β v c) (k:v.plain=true):AH I v c:=by
 cases v<;>first|exact h|cases k
theorem Ay {t:TypeId} {d:TypeDesc} (h:P.underlying t=some d):(underlying t).run P w=.ok d w:=run_underlying h w
theorem Kr {t:TypeId} {d:TypeDesc} (h:P.underlying t=some d):(isAgg t).run P w=.ok (RP d) w:=by
 simp only [isAgg,Sem.run_bind,Ay h,Result.andThen_ok]
 cases d<;>rfl
theorem BX {t:TypeId} {i:TypeInfo} (h:P.info? t=some i):(sizeOf t).run P w=.ok i.size w:=by
 simp [sizeOf,typeInfo,h]
theorem DZ {t:TypeId} {i:TypeInfo} {z:Value} (h:P.info? t=some i) (U:i.zero=some z):(zeroValue t).run P w=.ok z w:=by
 simp [zeroValue,typeInfo,h,U]
def Ty.one:Ty->Prop
 | .struct _ _| .arr _ _=>False
 |_=>True
theorem M0.sc {t:TypeId} {ty:Ty} (h:M0 P t ty) (k:ty.one):∃i d c,P.info? t=some i/\P.underlying t=some d/\RP d=false/\i.size=1/\i.zero=some c/\AH Mem.empty ty.zero c/\c.cells=#[c]:=by
 cases ty with
 |sc z=>
  obtain ⟨i,d,c,U,h2,h3,h4,h5,h6,h7,_⟩:=h
  exact ⟨i,d,c,U,h2,h3,h4,h5,h6,h7⟩
 |slice e sz b=>
  obtain ⟨i,j,c,U,h2,h3,h4,h5,h6,h7,h8,_⟩:=h
  exact ⟨i,.slice e,.slice none 0 0,U,h2,rfl,h3,h4,IY h8 _ (.inl rfl),rfl⟩
 |struct _ _=>exact k.elim
 |arr _ _=>exact k.elim
theorem Ra {t:TypeId} {ty:Ty} (h:M0 P t ty) (k:ty.one) {U:Addr} {v:Value} (hv:w.cell? U=some v):(loadVar t U).run P w=.ok v w:=by
 obtain ⟨i,d,c,h1,h2,h3,_⟩:=h.sc k
 simp only [loadVar,Sem.run_bind,Kr h2,h3,Result.andThen_ok,Bool.false_eq_true,if_false,run_load,hv]
theorem B9 (b o n:Nat):(⟨b,o,none⟩:Addr).add n=⟨b,o+n,none⟩:=by unfold Addr.add;simp_all
theorem G5 {t:TypeId} {U:List (Nat×Nat)} {z:List V} (h:M0 P t (.struct U z)) {b o:Nat} {vs:List Value} (hl:vs.length=z.length)
 (hv:∀j v,vs[j]? =some v->w.cell? ⟨b,o+j,none⟩=some v):(loadVar t ⟨b,o,none⟩).run P w=.ok (.agg vs.toArray) w:=by
 obtain ⟨i,fields,zs,h1,h2,h3,_⟩:=h
 have hc:=run_loadCells_list (P:=P) w ⟨b,o,none⟩ vs (λj v e=>by rw [B9];simp_all)
 rw [hl,<-h3] at hc
 simp only [loadVar,Sem.run_bind,Kr h2,RP,BX h1,Result.andThen_ok,if_true,hc,Sem.run_pure]
theorem Jj {t:TypeId} {U:List (Nat×Nat)} {z:List V} (h:M0 P t (.arr U z)) {b o:Nat} {vs:List Value} (hl:vs.length=z.length)
 (hv:∀j v,vs[j]? =some v->w.cell? ⟨b,o+j,none⟩=some v):(loadVar t ⟨b,o,none⟩).run P w=.ok (.agg vs.toArray) w:=by
 obtain ⟨i,n,e,j,zs,h1,h2,h3,_⟩:=h
 have hc:=run_loadCells_list (P:=P) w ⟨b,o,none⟩ vs (λj v e=>by rw [B9];simp_all)
 rw [hl,<-h3] at hc
 simp only [loadVar,Sem.run_bind,Kr h2,RP,BX h1,Result.andThen_ok,if_true,hc,Sem.run_pure]
theorem DW (hT:Gc P T) {cs:List V} {vs:List Value} {b o off:Nat} {t:TypeId} {K:V->Prop} (hk:Ao I cs vs) (hv:∀j v,vs[j]? =some v->w.cell? ⟨b,o+j,none⟩=some v)
 (h:CY cs off (assoc T t) K):∃v c,(loadVar t ⟨b,o+off,none⟩).run P w=.ok c w/\AH I v c/\K v:=by
 have scCase:∀ty:Ty,assoc T t=some ty->ty.one->(match cs[off]? with|some v=>v.force K|none=>False)->∃v c,(loadVar t ⟨b,o+off,none⟩).run P w=.ok c w/\AH I v c/\K v:=by
  intro ty ht hone h
  cases hc:cs[off]? with
  |none=>simp_all
  |some v=>
   rw [hc] at h
   obtain ⟨c,h1,h2⟩:=Ao.get hk hc
   exact ⟨v,c,Ra (hT t ty ht) hone (hv off c h1),h2,V.AK.1 h⟩
 unfold CY at h
 replace h:=(As.1 h).2
 split at h
 .rename_i offs z ht
  have U:=hT t _ ht
  have hlen:=Ao.length hk
  split at h
  .rename_i hb
   simp only [Bool.and_eq_true] at hb
   have h0:off=0:=Nat.eq_of_beq_eq_true hb.1
   have hz:z.length=cs.length:=Nat.eq_of_beq_eq_true hb.2
   subst h0
   exact ⟨.agg cs,.agg vs.toArray,G5 U AC (λj v e=>by simp_all),by simp only [AH];simp_all,h⟩
  .obtain ⟨hle,h⟩:=As.1 h
   have hle:=Nat.le_of_ble_eq_true hle
   refine ⟨_,.agg ((vs.drop off).take z.length).toArray,G5 U (by grind) (λj v e=>?_),?_,A5.1 h⟩
   .grind
   .simp only [AH]
    exact ⟨_,rfl,Ao.take _ (Ao.drop _ hk)⟩
 .rename_i offs z ht
  have U:=hT t _ ht
  have hlen:=Ao.length hk
  split at h
  .rename_i hb
   simp only [Bool.and_eq_true] at hb
   have h0:off=0:=Nat.eq_of_beq_eq_true hb.1
   have hz:z.length=cs.length:=Nat.eq_of_beq_eq_true hb.2
   subst h0
   exact ⟨.agg cs,.agg vs.toArray,Jj U AC (λj v e=>by simp_all),by simp only [AH];simp_all,h⟩
  .obtain ⟨hle,h⟩:=As.1 h
   have hle:=Nat.le_of_ble_eq_true hle
   refine ⟨_,.agg ((vs.drop off).take z.length).toArray,Jj U (by grind) (λj v e=>?_),?_,A5.1 h⟩
   .grind
   .simp only [AH]
    exact ⟨_,rfl,Ao.take _ (Ao.drop _ hk)⟩
 .rename_i ty hns hna ht
  exact scCase _ ht (by cases ty<;>first|trivial|exact (hns _ _ rfl).elim|exact (hna _ _ rfl).elim) h
 simp_all
end
def dJ (I:Mem):Ending->At->Prop
 | .returned c,.ret v=>AH I v c
 | .panicked chain,.BK v=>∃c,chain=[{v:=c,recovered:=false}]/\AH I v c
 |_,_=>False
def C0 (P:Program) (f:FuncId) (args:List V) (st:St) (R:At->St->Prop):Prop:=
 ∀(I:Mem) (w:World) (U:List Value),B7 I st w->Ao I args U->
  Calls P f U.toArray w λe w'=>∃I' st' r,Fr I st w I' st' w'/\B7 I' st' w'/\dJ I' e r/\R r st'
theorem C0.mono {P:Program} {f:FuncId} {args:List V} {st:St} {R R':At->St->Prop} (h:C0 P f args st R) (k:∀r s,R r s->R' r s):C0 P f args st R':=
 λI w U h1 h2=>(h I w U h1 h2).mono λe w' ⟨I',st',r,k1,k2,k3,k4⟩=>⟨I',st',r,k1,k2,k3,k r st' k4⟩
def tc (I:Mem):Exit->AD->Prop
 | .normal,.normal=>True
 | .exit i,.exit j=>i=j
 | .goto i,.goto j=>i=j
 | .ret,.ret=>True
 | .panic chain,.BK v=>∃c,chain=[{v:=c,recovered:=false}]/\AH I v c
 |_,_=>False
def Ci (D:List Deferred) (I0:Mem) (st0:St) (w0:World) (Q:AD->Env->St->Prop):Exit->Act->World->Prop:=
 λe a w=>∃I β env st U,Rel D I0 st0 w0 I β env st a w/\tc I e U/\Q U env st
def AW (P:Program) (c:Code) (Q:AD->Env->St->Prop) (env:Env) (st:St):Prop:=
 ∀D I0 st0 w0 I β a w,Rel D I0 st0 w0 I β env st a w->c.wp P (Ci D I0 st0 w0 Q) a w
section
variable {D:List Deferred} {P:Program} {T:List (Nat×Ty)} {C:FuncId->List V->St->(At->St->Prop)->Prop} {I0 I:Mem} {st0 st:St} {w0 w:World} {β:Nat->Option Nat} {env:Env} {a:Act}
variable {o:Oper} {K:V->Env->St->Prop} {Q:AD->Env->St->Prop} {next:Act->World->Prop}
def Cr (D:List Deferred) (I0:Mem) (st0:St) (w0:World) (U:Nat->Option Nat) (n0:Nat) (a:Act) (dst:Option Tmp) (next:Act->World->Prop) (K:V->Env->St->Prop):Prop:=
 ∀I β env st v c w,Rel D I0 st0 w0 I β env st a w->AQ I β v c->(∀id,id<n0->β id=U id)->K v env st->next (a.put dst c) w
theorem AG {c:Value} {v:V} {w':World} {I':Mem} {β':Nat->Option Nat} {env':Env} {st':St} {Qc:Exit->Act->World->Prop} (hK:Cr D I0 st0 w0 β env.BG a o.dst next K)
 (hr:(execOp a.eval o).run P w=.ok (.value c) w') (h:Rel D I0 st0 w0 I' β' env' st' a w') (hv:AQ I' β' v c) (k:K v env' st') (U:∀id,id<env.BG->β' id=β id:=by exact λ_ _=>rfl):o.wp P a w next Qc:=by
 unfold Oper.wp;rw [hr];exact hK _ _ _ _ _ _ _ h hv U k
theorem aT {w':World} {I':Mem} {β':Nat->Option Nat} {env':Env} {st':St} {Qc:Exit->Act->World->Prop} (hK:Cr D I0 st0 w0 β env.BG a o.dst next K)
 (hr:(execOp a.eval o).run P w=.ok .skip w') (h:Rel D I0 st0 w0 I' β' env' st' a w') (k:K .BD env' st') (U:∀id,id<env.BG->β' id=β id:=by exact λ_ _=>rfl):o.wp P a w next Qc:=by
 unfold Oper.wp;rw [hr];exact hK _ _ _ _ _ _ _ h (AQ.of (v:=.BD) (by simp only [AH])) U k
theorem EU {v:V} {c:Value} (h:AH I v c) (k:v.known=true):Ao I v.cells c.cells.toList:=by
 have one:∀{u:V} {c:Value},AH I u c->c.cells=#[c]->Ao I [u] c.cells.toList:=λ{u c} h e=>by
  rw [e];simp only [Ao];simp_all
 cases v with
 |BD=>cases k
 |B3 _ _=>cases k
 |agg cs=>simp only [AH] at h;obtain ⟨vs,rfl,h⟩:=h;exact h
 |bool b=>refine one h ?_;simp only [AH] at h;subst h;rfl
 |int U n=>refine one h ?_;simp only [AH] at h;subst h;rfl
 |str s=>refine one h ?_;simp only [AH] at h;rw [h.1];rfl
 |Bj cs=>refine one h ?_;simp only [AH] at h;obtain ⟨vs,rfl,_⟩:=h;rfl
 |slice sz es own=>refine one h ?_;simp only [AH] at h;obtain ⟨x,y,rfl,_⟩:=h;rfl
 |ptr b off=>refine one h ?_;simp only [AH] at h;subst h;rfl
 |FY b off=>refine one h ?_;simp only [AH] at h;obtain ⟨x,y,rfl,_⟩:=h;rfl
 |DR=>refine one h ?_;simp only [AH] at h;subst h;rfl
 |func f x y=>refine one h ?_;simp only [AH] at h;obtain ⟨x,y,rfl,_⟩:=h;rfl
 |Ar=>refine one h ?_;simp only [AH] at h;subst h;rfl
 |iface t v=>refine one h ?_;simp only [AH] at h;obtain ⟨x,rfl,_⟩:=h;rfl
 |EJ=>refine one h ?_;simp only [AH] at h;subst h;rfl
 |OC _ _=>cases k
 |Fp _ _ _ _=>refine one h ?_;simp only [AH] at h;rw [h.1];rfl
 |XX l=>refine one h ?_;simp only [AH] at h;subst h;rfl
theorem F3 {v:V} (h:v.known=true):v.plain=true:=by cases v<;>first|rfl|cases h
theorem si {v:V} {c:Value} (h:AH I v c) (k:v.sc=true):c.oneCell'=true:=by
 cases v with
 |BD=>cases k
 |agg cs=>cases k
 |Bj cs=>cases k
 |B3 _ _=>simp only [AH] at h
 |bool b=>simp only [AH] at h;subst h;rfl
 |int U n=>simp only [AH] at h;subst h;rfl
 |str s=>simp only [AH] at h;rw [h.1];rfl
 |slice sz es own=>simp only [AH] at h;obtain ⟨x,y,rfl,_⟩:=h;rfl
 |ptr b off=>simp only [AH] at h;subst h;rfl
 |FY b off=>simp only [AH] at h;obtain ⟨x,y,rfl,_⟩:=h;rfl
 |DR=>simp only [AH] at h;subst h;rfl
 |func f x y=>simp only [AH] at h;obtain ⟨x,y,rfl,_⟩:=h;rfl
 |Ar=>simp only [AH] at h;subst h;rfl
 |iface t v=>simp only [AH] at h;obtain ⟨x,rfl,_⟩:=h;rfl
 |EJ=>simp only [AH] at h;subst h;rfl
 |OC _ _=>cases k
 |Fp _ _ _ _=>simp only [AH] at h;rw [h.1];rfl
 |XX l=>simp only [AH] at h;subst h;rfl
theorem Zo:∀{l:List V} {vs:List Value},Ao I l vs->l.all V.sc=true->∀c ∈ vs,c.oneCell'=true
 |[],vs,k,h,c,U=>by simp only [Ao] at k;simp_all
 |v::r,vs,k,h,c,U=>by
  simp only [Ao] at k
  obtain ⟨c',s,e,k1,k2⟩:=k
  subst e
  simp only [List.all_cons,Bool.and_eq_true] at h
  rcases List.mem_cons.1 U with rfl|U
  .exact si k1 h.1
  .exact Zo k2 h.2 c U
theorem ES {B:Nat} (h:G9 D B I β env st a w):∀{l:List Operand} {K:List V->Prop},TB env l K->∃vs,Ao I vs (l.map a.eval)/\K vs
 |[],K,k=>⟨[],H1,k⟩
 |x::r,K,k=>by
  rw [VB,V.AK] at k
  obtain ⟨hp,k⟩:=As.1 k
  obtain ⟨vs,U,h2⟩:=ES h k
  exact ⟨_,by simp only [List.map_cons,Ao];exact ⟨_,_,rfl,(h.eval x).rep hp,U⟩,h2⟩
theorem K0 (U:Gc P T) {B:Nat} (h:G9 D B I β env st a w):∀{ts:List TypeId} {l:List Operand} {K:List V->Prop},VA T env ts l K->∃vs,Ao I vs (l.map a.eval)/\K vs
 |ts,[],K,k=>⟨[],H1,k⟩
 |ts,x::r,K,k=>by
  rw [Sq,V.AK] at k
  obtain ⟨hp,k⟩:=As.1 k
  obtain ⟨vs,h1,h2⟩:=K0 U h k
  exact ⟨_,by simp only [List.map_cons,Ao];exact ⟨_,_,rfl,(h.B4 U _ x).rep hp,h1⟩,h2⟩
theorem Mn (hK:Cr D I0 st0 w0 β env.BG a o.dst next K) (h:Rel D I0 st0 w0 I β env st a w) {cs:List V} {vs:List Value} (hv:Ao I cs vs) (ty:TypeId)
 (k:IK env st o.dst cs K):next (a.put o.dst (.pointer (some ⟨w.heap.size,0,none⟩))) (w.alloc (.cells vs.toArray ty)):=by
 unfold IK at k
 split at k
 .have k:=A5.1 k _ (CU h.s)
  exact hK _ _ _ _ _ _ _ (h.Ke hv ty) (AQ.of H1) (λ_ _=>rfl) k
 .have k:=A5.1 k
  exact hK _ _ _ _ (.B3 _ 0) _ _ (h.iC hv ty) (show ∃b,_/\_ from ⟨w.heap.size,if_pos rfl,rfl⟩) (λid U=>if_neg (Nat.ne_of_lt U)) k
theorem cd {B:Nat} {op:BinOp} {x y:V} {cx cy:Value} {K:V->Prop} (h1:AQ I β x cx) (h2:AQ I β y cy) (t:TypeId) (ox oy:Operand) (k:bin op x y K):
 ∃v c,(do eqGuard op t ox oy cx cy;binOp op t cx cy:Sem Value).run P w=.ok c w/\AH I v c/\K v:=by
 have U:∀{cx cy:Value},((∃k n,cx=.int k n)\/(∃s,cx=.string s))->(eqGuard op t ox oy cx cy).run P w=.ok () w:=by
  intro cx cy h
  rcases h with ⟨k,n,rfl⟩|⟨s,rfl⟩<;>(unfold eqGuard;cases op<;>rfl)
 unfold bin at k
 split at k
 .rename_i ka na kb nb
  have e1:cx=.int ka na:=by have:=h1;simpa only [AQ,AH] using this
  have e2:cy=.int kb nb:=by have:=h2;simpa only [AQ,AH] using this
  subst e1;subst e2
  have k':Dx (decide (ka=kb)) _:=k
  rw [As] at k'
  obtain ⟨hk,k'⟩:=k'
  clear k
  have hk:=of_decide_eq_true hk
  subst hk
  revert k'
  intro k
  simp only [Sem.run_bind,U (.inl ⟨_,_,rfl⟩),Result.andThen_ok]
  have bc:∀{b:Bool} {K:V->Prop},Bk b (K (.bool true)) (K (.bool false))->K (.bool b):=λ{b K} h=>by cases b<;>first|exact AZ.1 h|exact A3.1 h
  have bcn:∀{b:Bool} {K:V->Prop},Bk b (K (.bool false)) (K (.bool true))->K (.bool (!b)):=λ{b K} h=>by cases b<;>first|exact AZ.1 h|exact A3.1 h
  cases op
  case add=>obtain ⟨r,rfl,k⟩:=k;exact ⟨_,_,by simp [binOp,Op.intArith];rfl,H1,k⟩
  case sub=>obtain ⟨r,rfl,k⟩:=k;exact ⟨_,_,by simp [binOp,Op.intArith];rfl,H1,k⟩
  case mul=>obtain ⟨r,rfl,k⟩:=k;exact ⟨_,_,by simp [binOp,Op.intArith];rfl,H1,k⟩
  case quo=>obtain ⟨hb,r,rfl,k⟩:=k;exact ⟨_,_,by simp [binOp,Op.intDiv,hb];rfl,H1,k⟩
  case rem=>obtain ⟨hb,k⟩:=k;exact ⟨_,_,by simp [binOp,Op.intDiv,hb];rfl,H1,k⟩
  case and=>obtain ⟨r,rfl,k⟩:=k;exact ⟨_,_,by simp only [binOp,Op.intBits,ne_eq,not_true_eq_false,if_false];rfl,H1,k⟩
  case eql=>exact ⟨_,_,by simp [binOp,Op.intCmp];rfl,H1,bc (K:=K) k⟩
  case neq=>exact ⟨_,_,by simp [binOp,Op.intCmp,bne];rfl,H1,bcn (K:=K) k⟩
  case lss=>exact ⟨_,_,by simp [binOp,Op.intCmp];rfl,H1,bc (K:=K) k⟩
  case leq=>exact ⟨_,_,by simp [binOp,Op.intCmp];rfl,H1,bc (K:=K) k⟩
  case gtr=>exact ⟨_,_,by simp [binOp,Op.intCmp];rfl,H1,bc (K:=K) k⟩
  case geq=>exact ⟨_,_,by simp [binOp,Op.intCmp];rfl,H1,bc (K:=K) k⟩
  all_goals exact k.elim
 .rename_i sa sb
  have e1:cx=.string ⟨sa.toArray⟩/\sa.length<C9:=by have:=h1;simpa only [AQ,AH] using this
  have e2:cy=.string ⟨sb.toArray⟩/\sb.length<C9:=by have:=h2;simpa only [AQ,AH] using this
  obtain ⟨rfl,l1⟩:=e1
  obtain ⟨rfl,l2⟩:=e2
  simp only [Sem.run_bind,U (.inr ⟨_,rfl⟩),Result.andThen_ok]
  have bc:∀{b:Bool} {K:V->Prop},Bk b (K (.bool true)) (K (.bool false))->K (.bool b):=λ{b K} h=>by cases b<;>first|exact AZ.1 h|exact A3.1 h
  have bcn:∀{b:Bool} {K:V->Prop},Bk b (K (.bool false)) (K (.bool true))->K (.bool (!b)):=λ{b K} h=>by cases b<;>first|exact AZ.1 h|exact A3.1 h
  have hl:∀s:List UInt8,(⟨s.toArray⟩:ByteArray).toList=s:=λs=>ByteArray.toList_mk s
  cases op
  case add=>
   obtain ⟨hlen,k⟩:=k
   refine ⟨_,.string (⟨sa.toArray⟩++⟨sb.toArray⟩),?_,?_,k⟩
   .have:¬((9223372036854775807:Int)<((sa.length+sb.length:Nat):Int)):=by simp only [C9] at hlen;omega
    have hs:(⟨sa.toArray⟩:ByteArray).size+(⟨sb.toArray⟩:ByteArray).size=sa.length+sb.length:=by
     show sa.toArray.size+sb.toArray.size=_
     simp
    have hm:IntKind.i64.max=9223372036854775807:=Do
    simp only [binOp,Op.stringOp,hs]
    simp_all
   .simp only [AH]
    refine ⟨?_,kw⟩
    congr 1
  case eql=>exact ⟨_,_,by simp only [binOp,Op.stringOp,hl];rfl,H1,bc (K:=K) k⟩
  case neq=>exact ⟨_,_,by simp only [binOp,Op.stringOp,hl];rfl,H1,bcn (K:=K) k⟩
  all_goals exact k.elim
 simp_all
end
section
variable {D:List Deferred} {P:Program} {T:List (Nat×Ty)} {C:FuncId->List V->St->(At->St->Prop)->Prop} {I0 I:Mem} {st0 st:St} {w0 w:World} {β:Nat->Option Nat} {env:Env} {a:Act}
variable {o:Oper} {K:V->Env->St->Prop} {Q:AD->Env->St->Prop} {next:Act->World->Prop} {Qc:Exit->Act->World->Prop}
theorem G2 {b:Bool} {c:Value} (h:AQ I β (.bool b) c):c=.bool b:=by have:=h;simpa only [AQ,AH] using this
theorem FW {k:IntKind} {n:Int} {c:Value} (h:AQ I β (.int k n) c):c=.int k n:=by have:=h;simpa only [AQ,AH] using this
theorem Uq {s:List UInt8} {c:Value} (h:AQ I β (.str s) c):c=.string ⟨s.toArray⟩/\s.length<C9:=by have:=h;simpa only [AQ,AH] using this
theorem MD {b off:Nat} {c:Value} (h:AQ I β (.ptr b off) c):c=.pointer (some ⟨b,off,none⟩):=by have:=h;simpa only [AQ,AH] using this
theorem G3 {id off:Nat} {c:Value} (h:AQ I β (.B3 id off) c):∃b,β id=some b/\c=.pointer (some ⟨b,off,none⟩):=h
theorem Q2 {e:List V} {off:Nat} {c:Value} (h:AQ I β (.FY e off) c):∃b o,c=.pointer (some ⟨b,o+off,none⟩)/\Fv I b o e:=by have:=h;simpa only [AQ,AH] using this
theorem MC {sz b n cap:Nat} {c:Value} (h:AQ I β (.Fp sz b n cap) c):c=.slice (some ⟨b,0,none⟩) n cap/\n<=cap/\n<C9/\0<sz:=by
 have U:AH I (.Fp sz b n cap) c:=h
 simp only [AH] at U
 exact U
theorem DI {sz:Nat} {es:List (List V)} {own:AA} {c:Value} (h:AQ I β (.slice sz es own) c):∃U cap,c=.slice U es.length cap/\es.length<=cap/\es.length<C9/\0<sz/\U0 I sz es.length cap U own/\
 (match U with|none=>cap=0|some U=>(cap=0\/U.spot=none)/\B8 I sz U.block U.off es):=by
 have h':AH I (.slice sz es own) c:=h
 simp only [AH] at h'
 omega
theorem Rl {x:Operand} (hT:Gc P T) (hK:Cr D I0 st0 w0 β env.BG a o.dst next K) (h:Rel D I0 st0 w0 I β env st a w) (U:o.op=.move x\/o.op=.assign x)
 (k:(env.B4 T o.type x).force λv=>K v env st):o.wp P a w next Qc:=by
 refine AG hK (c:=a.eval x) (w':=w) ?_ h (h.f.B4 hT o.type x) (V.AK.1 k)
 rcases U with U|U<;>simp only [execOp,U]<;>rfl
theorem Zv {c x y:Operand} (hT:Gc P T) (hK:Cr D I0 st0 w0 β env.BG a o.dst next K) (h:Rel D I0 st0 w0 I β env st a w) (ho:o.op=.pick c x y)
 (k:match env.eval c with
   | .bool t=>lit t ((env.B4 T o.type x).force λv=>K v env st) ((env.B4 T o.type y).force λv=>K v env st)
   |_=>False):o.wp P a w next Qc:=by
 have U:=h.f.eval c
 split at k
 .rename_i t he
  rw [he] at U
  have U:=G2 U
  cases t with
  |true=>
   have k:(env.B4 T o.type x).force λv=>K v env st:=k
   refine AG hK (c:=a.eval x) (w':=w) ?_ h (h.f.B4 hT o.type x) (V.AK.1 k)
   simp only [execOp,ho,U];rfl
  |false=>
   have k:(env.B4 T o.type y).force λv=>K v env st:=k
   refine AG hK (c:=a.eval y) (w':=w) ?_ h (h.f.B4 hT o.type y) (V.AK.1 k)
   simp only [execOp,ho,U];rfl
 simp_all
theorem bT {t:TypeId} {ty:Ty} (hT:Gc P T) (I:Mem) (w:World) (a:Act) (ht:assoc T t=some ty) (ho:o.op=.alloc t):
 ∃vs:List Value,Ao I ty.zero.cells vs/\(execOp a.eval o).run P w=.ok (.value (.pointer (some ⟨w.heap.size,0,none⟩))) (w.alloc (.cells vs.toArray t)):=by
 have hz:∃(i:TypeInfo) (c:Value),P.info? t=some i/\i.zero=some c/\Ao I ty.zero.cells c.cells.toList:=by
  have hty:=hT t ty ht
  cases ty with
  |struct offs z=>
   obtain ⟨i,fields,zs,U,h2,h3,h4,h5,_⟩:=hty
   exact ⟨i,_,U,h4,Ao.mono (Mem.empty_le I) _ _ h5⟩
  |arr offs z=>
   obtain ⟨i,n,e,j,zs,U,h2,h3,h4,h5,_⟩:=hty
   exact ⟨i,_,U,h4,Ao.mono (Mem.empty_le I) _ _ h5⟩
  |sc z=>
   obtain ⟨i,d,c,U,h2,h3,h4,h5,h6,h7,h8,h9,_⟩:=hty
   exact ⟨i,c,U,h5,EU (AH.mono (Mem.empty_le I) _ _ h6) h8⟩
  |slice e sz b=>
   obtain ⟨i,j,c,U,h2,h3,h4,h5,h6,h7,h8,_⟩:=hty
   exact ⟨i,_,U,h4,EU (IY h8 _ (.inl rfl)) rfl⟩
 obtain ⟨i,c,U,h2,h3⟩:=hz
 refine ⟨_,h3,?_⟩
 simp only [execOp,ho,Instr.alloc,Sem.run_bind,DZ U h2,Result.andThen_ok,newVar,newRow,run_newObj,Sem.run_pure,World.alloc_eq,Array.toArray_toList]
theorem l8 {t:TypeId} {x:Operand} (w:World) (a:Act) (U:o.op=.box t x):
 (execOp a.eval o).run P w=.ok (.value (.pointer (some ⟨w.heap.size,0,none⟩))) (w.alloc (.cells (a.eval x).cells.toList.toArray t)):=by
 simp only [execOp,U,Instr.box,Sem.run_bind,Result.andThen_ok,newVar,newRow,run_newObj,Sem.run_pure,World.alloc_eq,Array.toArray_toList]
theorem Xq {t:TypeId} (hT:Gc P T) (hK:Cr D I0 st0 w0 β env.BG a o.dst next K) (h:Rel D I0 st0 w0 I β env st a w) (ho:o.op=.alloc t)
 (k:match assoc T t with|some ty=>IK env st o.dst ty.zero.cells K|none=>False):o.wp P a w next Qc:=by
 split at k
 .rename_i ty ht
  obtain ⟨vs,U,hr⟩:=bT (P:=P) hT I w a ht ho
  unfold Oper.wp
  rw [hr]
  exact Mn hK h U t k
 simp_all
theorem dU {t:TypeId} {x:Operand} (hT:Gc P T) (hK:Cr D I0 st0 w0 β env.BG a o.dst next K) (h:Rel D I0 st0 w0 I β env st a w) (ho:o.op=.box t x)
 (k:(env.B4 T t x).force λv=>Dx v.known (IK env st o.dst v.cells K)):o.wp P a w next Qc:=by
 obtain ⟨U,k⟩:=As.1 (V.AK.1 k)
 have hv:=(h.f.B4 hT t x).rep (F3 U)
 unfold Oper.wp
 rw [l8 w a ho]
 exact Mn hK h (EU hv U) t k
theorem Ib {w:World} {b:Nat} {vs:List Value} {ty:TypeId} (hb:w.heap[b]? =some (.cells vs.toArray ty (0,0))) {j:Nat} {v:Value} (U:vs[j]? =some v):w.cell? ⟨b,j,none⟩=some v:=by
 simp only [World.cell?,hb]
 simp_all
theorem Lh:∀{l:List V} {b o:Nat},B7 I st w->Fv I b o l->∃vs,Ao I l vs/\∀j v,vs[j]? =some v->w.cell? ⟨b,o+j,none⟩=some v
 |[],b,o,U,k=>⟨[],H1,λj v e=>by simp at e⟩
 |u::r,b,o,U,k=>by
  simp only [Fv] at k
  obtain ⟨⟨c,h1,h2⟩,k2⟩:=k
  obtain ⟨vs,h3,h4⟩:=Lh U k2
  refine ⟨c::vs,by simp only [Ao];grind,λj v e=>?_⟩
  cases j with
  |zero=>simp at e;subst e;exact U.cell _ _ _ h1
  |succ j=>
   grind
theorem Zt {t:TypeId} {x:Operand} (hT:Gc P T) (hK:Cr D I0 st0 w0 β env.BG a o.dst next K) (h:Rel D I0 st0 w0 I β env st a w) (ho:o.op=.load t x)
 (k:match env.eval x with
 | .B3 id off=>match assoc env.boxes id with
   |some cs=>CY cs off (assoc T t) (λv=>K v env st)
   |none=>False
 | .ptr b off=>∃cs,st.box b=some cs/\CY cs off (assoc T t) (λv=>K v env st)
 | .FY e off=>CY e off (assoc T t) (λv=>K v env st)
 |_=>False):o.wp P a w next Qc:=by
 have U:=h.f.eval x
 have fin:∀{ad:Addr} {c:Value} {v:V},a.eval x=.pointer (some ad)->(loadVar t ad).run P w=.ok c w->AH I v c->K v env st->o.wp P a w next Qc:=by
  intro ad c v e1 e2 e3 e4
  refine AG hK (c:=c) (w':=w) ?_ h (AQ.of e3) e4
  simp only [execOp,ho,Instr.loadAt,e1,Instr.sureAddr,Sem.run_bind,Sem.run_pure,Result.andThen_ok,e2]
 split at k
 .rename_i id off he
  rw [he] at U
  obtain ⟨b,hb,U⟩:=G3 U
  split at k
  .rename_i cs hcs
   obtain ⟨b',h1,h2⟩:=h.f.box id cs hcs
   rw [hb] at h1
   injection h1 with h1
   subst h1
   obtain ⟨vs,ty,h2,h3⟩:=h2.cells (KJ k)
   obtain ⟨v,c,g1,g2,g3⟩:=DW (b:=b) (o:=0) hT h3 (λj v e=>by simpa using Ib h2 e) k
   grind
  simp_all
 .rename_i b off he
  rw [he] at U
  have U:=MD U
  obtain ⟨cs,hcs,k⟩:=k
  obtain ⟨vs,ty,h2,h3⟩:=h.s.box b cs hcs
  obtain ⟨v,c,g1,g2,g3⟩:=DW (b:=b) (o:=0) hT h3 (λj v e=>by simpa using Ib h2 e) k
  grind
 .rename_i e off he
  rw [he] at U
  obtain ⟨b,o',U,hc⟩:=Q2 U
  obtain ⟨vs,h3,h4⟩:=Lh h.s hc
  obtain ⟨v,c,g1,g2,g3⟩:=DW hT h3 h4 k
  grind
 simp_all
theorem oX {t:TypeId} {ty:Ty} (h:M0 P t ty):∃i,P.info? t=some i/\i.size=ty.zero.cells.length:=by
 cases ty with
 |struct offs z=>obtain ⟨i,fields,zs,U,h2,h3,_⟩:=h;exact ⟨i,U,h3⟩
 |arr offs z=>obtain ⟨i,n,e,j,zs,U,h2,h3,_⟩:=h;exact ⟨i,U,h3⟩
 |sc z=>obtain ⟨i,d,c,U,h2,h3,h4,h5,h6,h7,h8,h9,_⟩:=h;exact ⟨i,U,by rw [h4];show 1=z.cells.length;simp_all⟩
 |slice e sz b=>obtain ⟨i,j,c,U,h2,h3,_⟩:=h;exact ⟨i,U,h3⟩
theorem KO {t:TypeId} {ty:Ty} (hty:M0 P t ty) {cs:List V} {vs:List Value} {b off:Nat} {v:V} {c:Value} {U:TypeId} {K:List V->Prop}
 (hb:w.heap[b]? =some (.cells vs.toArray U (0,0))) (hk:Ao I cs vs) (hv:AH I v c) (hkn:v.known=true) (hsz:v.cells.length=ty.zero.cells.length) (k:Cg cs off v.cells K):
 ∃cs' us,(storeVar t ⟨b,off,none⟩ c).run P w=.ok () (w.setRow b us.toArray)/\Ao I cs' us/\K cs':=by
 unfold Cg at k
 obtain ⟨_,k⟩:=As.1 k
 obtain ⟨h1,k⟩:=As.1 k
 obtain ⟨h2,k⟩:=As.1 k
 have k:=A5.1 k
 have h1:=Nat.le_of_ble_eq_true h1
 have hc:=EU hv hkn
 have hlc:=Ao.length hc
 have hlv:=Ao.length hk
 obtain ⟨i,hi,hs⟩:=oX hty
 refine ⟨_,_,?_,Ao.append (Ao.append (Ao.take off hk) hc) (Ao.drop (off+v.cells.length) hk),k⟩
 have hrun:=run_storeCells_at P b off U c.cells.toList 0 vs.toArray w hb kw (Zo hc h2)
 have hcs:c.cells.size=i.size:=by rw [hs,<-hsz,hlc,Array.length_toList]
 simp only [storeVar,Sem.run_bind,BX hi,Result.andThen_ok,hcs,ne_eq,not_true_eq_false,if_false,Sem.run_pure,hrun,Nat.add_zero]
 simp_all
theorem Xx {t:TypeId} {x y:Operand} (hT:Gc P T) (hK:Cr D I0 st0 w0 β env.BG a o.dst next K) (h:Rel D I0 st0 w0 I β env st a w) (ho:o.op=.store t x y)
 (k:match env.eval x with
 | .B3 id off=>match assoc env.boxes id,assoc T t with
   |some cs,some ty=>match env with
    |⟨ts,bs,n,sz,gl⟩=>(Env.B4 T ⟨ts,bs,n,sz,gl⟩ t y).force λv=>Dx (v.known&&Nat.beq v.cells.length ty.zero.cells.length)
     (Cg cs off v.cells λcs'=>K .BD ⟨ts,(id,cs')::bs,n,sz,gl⟩ st)
   |_,_=>False
 | .ptr b off=>match assoc T t with
   |some ty=>∃cs,st.box b=some cs/\(env.B4 T t y).force λv=>Dx (v.known&&Nat.beq v.cells.length ty.zero.cells.length)
     (Cg cs off v.cells λcs'=>K .BD env (st.Aa b cs'))
   |none=>False
 |_=>False):o.wp P a w next Qc:=by
 have hx:=h.f.eval x
 have hy:=h.f.B4 hT t y
 have fin:∀{ad:Addr} {w':World},a.eval x=.pointer (some ad)->(storeVar t ad (a.eval y)).run P w=.ok () w'->(execOp a.eval o).run P w=.ok .skip w':=by
  intro ad w' e1 e2
  simp only [execOp,ho,Instr.storeAt,e1,Instr.sureAddr,Sem.run_bind,Sem.run_pure,Result.andThen_ok,e2]
 split at k
 .rename_i id off he
  rw [he] at hx
  obtain ⟨b,hb,hx⟩:=G3 hx
  split at k
  .rename_i cs ty hcs hty
   obtain ⟨b',h1,h2⟩:=h.f.box id cs hcs
   rw [hb] at h1
   injection h1 with h1
   subst h1
   have k:=V.AK.1 k
   obtain ⟨U,k⟩:=As.1 k
   obtain ⟨vs,ety,h2,h3⟩:=h2.cells (UH k)
   simp only [Bool.and_eq_true] at U
   obtain ⟨cs',us,g1,g2,g3⟩:=KO (hT t ty hty) h2 h3 (hy.rep (F3 U.1)) U.1 (Nat.eq_of_beq_eq_true U.2) k
   exact aT hK (fin hx g1) (h.Zy (cs:=cs) hb h2 g2) g3
  simp_all
 .rename_i b off he
  rw [he] at hx
  have hx:=MD hx
  split at k
  .rename_i ty hty
   obtain ⟨cs,hcs,k⟩:=k
   obtain ⟨vs,ety,h2,h3⟩:=h.s.box b cs hcs
   have k:=V.AK.1 k
   obtain ⟨U,k⟩:=As.1 k
   simp only [Bool.and_eq_true] at U
   obtain ⟨cs',us,g1,g2,g3⟩:=KO (hT t ty hty) h2 h3 (hy.rep (F3 U.1)) U.1 (Nat.eq_of_beq_eq_true U.2) k
   exact aT hK (fin hx g1) (h.Ot hcs h2 g2) g3
  simp_all
 simp_all
theorem Rm {x:Operand} (hK:Cr D I0 st0 w0 β env.BG a o.dst next K) (h:Rel D I0 st0 w0 I β env st a w) (ho:o.op=.nilCheck x)
 (k:match env.eval x with
 | .B3 id off=>K (.B3 id off) env st
 | .ptr b off=>K (.ptr b off) env st
 | .FY e off=>K (.FY e off) env st
 |_=>False):o.wp P a w next Qc:=by
 have hx:=h.f.eval x
 split at k
 .rename_i id off he
  rw [he] at hx
  obtain ⟨b,hb,U⟩:=G3 hx
  exact AG hK (c:=a.eval x) (w':=w) (by simp only [execOp,ho,U];rfl) h hx k
 .rename_i b off he
  rw [he] at hx
  have U:=MD hx
  exact AG hK (c:=a.eval x) (w':=w) (by simp only [execOp,ho,U];rfl) h hx k
 .rename_i e off he
  rw [he] at hx
  obtain ⟨b,o',U,_⟩:=Q2 hx
  exact AG hK (c:=a.eval x) (w':=w) (by simp only [execOp,ho,U];rfl) h hx k
 simp_all
theorem OG {t:TypeId} {x:Operand} {f:Nat} (hT:Gc P T) (hK:Cr D I0 st0 w0 β env.BG a o.dst next K) (h:Rel D I0 st0 w0 I β env st a w) (ho:o.op=.fieldAddr t x f)
 (k:match assoc T t,env.eval x with
 |some (.struct U _),.B3 id off=>match U[f]? with|some (o,s)=>Dx (Nat.blt 0 s) (K (.B3 id (off+o)) env st)|none=>False
 |some (.struct U _),.ptr b off=>match U[f]? with|some (o,s)=>Dx (Nat.blt 0 s) (K (.ptr b (off+o)) env st)|none=>False
 |some (.struct U _),.FY e off=>match U[f]? with|some (o,s)=>Dx (Nat.blt 0 s) (K (.FY e (off+o)) env st)|none=>False
 |_,_=>False):o.wp P a w next Qc:=by
 have hx:=h.f.eval x
 have fin:∀{U:List (Nat×Nat)} {z:List V} {b off o' s:Nat},assoc T t=some (.struct U z)->U[f]? =some (o',s)->0<s->a.eval x=.pointer (some ⟨b,off,none⟩)->
  (execOp a.eval o).run P w=.ok (.value (.pointer (some ⟨b,off+o',none⟩))) w:=by
  intro U z b off o' s ht hf hs e
  obtain ⟨i,fields,zs,h1,h2,h3,h4,h5,h6,h7,_⟩:=hT t _ ht
  obtain ⟨fl,j,g1,g2,g3,g4⟩:=h7 f o' s hf
  have hne:¬j.size=0:=AC
  simp only [execOp,ho,Instr.fieldAt,Sem.run_bind,Ay h2,Result.andThen_ok,g1,e,Instr.sureAddr,Sem.run_pure,fieldPlace,BX g3,Sem.run_ite]
  rw [if_neg hne]
  simp only [Result.andThen_ok,B9,g2]
 split at k
 .rename_i U z id off ht he
  rw [he] at hx
  obtain ⟨b,hb,hx⟩:=G3 hx
  split at k
  .rename_i o' s hf
   obtain ⟨hs,k⟩:=As.1 k
   exact AG hK (fin ht hf kw hx) h (show AQ I β (.B3 id (off+o')) _ from ⟨b,hb,rfl⟩) k
  simp_all
 .rename_i U z b off ht he
  rw [he] at hx
  have hx:=MD hx
  split at k
  .rename_i o' s hf
   obtain ⟨hs,k⟩:=As.1 k
   exact AG hK (fin ht hf kw hx) h (AQ.of H1) k
  simp_all
 .rename_i U z e off ht he
  rw [he] at hx
  obtain ⟨b,o1,hx,hc⟩:=Q2 hx
  split at k
  .rename_i o' s hf
   obtain ⟨hs,k⟩:=As.1 k
   exact AG hK (fin ht hf kw hx) h (AQ.of (by simp only [AH];grind)) k
  simp_all
 simp_all
end
section
variable {D:List Deferred} {P:Program} {T:List (Nat×Ty)} {C:FuncId->List V->St->(At->St->Prop)->Prop} {I0 I:Mem} {st0 st:St} {w0 w:World} {β:Nat->Option Nat} {env:Env} {a:Act}
variable {o:Oper} {K:V->Env->St->Prop} {Q:AD->Env->St->Prop} {next:Act->World->Prop} {Qc:Exit->Act->World->Prop}
theorem Zw {op:UnOp} {t:TypeId} {x:Operand} (hK:Cr D I0 st0 w0 β env.BG a o.dst next K) (h:Rel D I0 st0 w0 I β env st a w)
 (k:match op,env.eval x with
 | .not,.bool b=>lit b (K (.bool false) env st) (K (.bool true) env st)
 | .neg,.int k n=>∃r,r=k.wrap (0 - n)/\K (.int k r) env st
 |_,_=>False) (ho:o.op=.unOp op t x):o.wp P a w next Qc:=by
 have U:=h.f.eval x
 split at k
 .rename_i b he
  rw [he] at U
  have U:=G2 U
  refine AG hK (c:=.bool (!b)) (w':=w) (v:=.bool (!b)) (by simp only [execOp,ho,U];rfl) h (AQ.of H1) ?_
  cases b<;>exact k
 .rename_i kd n he
  rw [he] at U
  have U:=FW U
  obtain ⟨r,rfl,k⟩:=k
  exact AG hK (c:=.int kd (kd.wrap (0 - n))) (w':=w) (by simp only [execOp,ho,U];rfl) h (AQ.of H1) k
 simp_all
theorem Rk {f:FuncId} {first cap:Array Operand} (hK:Cr D I0 st0 w0 β env.BG a o.dst next K) (h:Rel D I0 st0 w0 I β env st a w) (ho:o.op=.makeFunc (.func f) first cap)
 (k:TB env first.toList λx=>TB env cap.toList λc=>K (.func f x c) env st):o.wp P a w next Qc:=by
 obtain ⟨v1,U,k⟩:=ES h.f k
 obtain ⟨v2,h2,k⟩:=ES h.f k
 refine AG hK (c:=.func (.func f) (first.map a.eval) (cap.map a.eval)) (w':=w) (by simp only [execOp,ho];rfl) h (AQ.of ?_) k
 simp only [AH]
 exact ⟨first.toList.map a.eval,cap.toList.map a.eval,by congr 1<;>(apply Array.ext';simp),U,h2⟩
theorem R6 {x:Operand} {i:Nat} (hK:Cr D I0 st0 w0 β env.BG a o.dst next K) (h:Rel D I0 st0 w0 I β env st a w) (ho:o.op=.extract x i)
 (k:match env.eval x with
 | .Bj vs=>match vs[i]? with|some v=>v.force λv=>K v env st|none=>False
 |_=>False):o.wp P a w next Qc:=by
 have hx:=h.f.eval x
 split at k
 .rename_i vs he
  rw [he] at hx
  have U:AH I (.Bj vs) (a.eval x):=hx
  simp only [AH] at U
  obtain ⟨cs,e,hl⟩:=U
  split at k
  .rename_i v hv
   obtain ⟨c,h1,h2⟩:=Ao.get hl hv
   refine AG hK (c:=c) (w':=w) ?_ h (AQ.of h2) (V.AK.1 k)
   simp only [execOp,ho,e,Instr.extract]
   simp_all
  simp_all
 simp_all
theorem Xs {t:TypeId} {x:Operand} {f:Nat} (hT:Gc P T) (hK:Cr D I0 st0 w0 β env.BG a o.dst next K) (h:Rel D I0 st0 w0 I β env st a w) (ho:o.op=.field t x f)
 (k:match assoc T t,env.eval x with
 |some (.struct U _),.agg cs=>match U[f]? with
  |some (o,1)=>match cs[o]? with|some v=>v.force λv=>K v env st|none=>False
  |_=>False
 |_,_=>False):o.wp P a w next Qc:=by
 have hx:=h.f.eval x
 split at k
 .rename_i U z cs ht he
  rw [he] at hx
  have hx':AH I (.agg cs) (a.eval x):=hx
  simp only [AH] at hx'
  obtain ⟨vs,e,hl⟩:=hx'
  split at k
  .rename_i o' hf
   split at k
   .rename_i v hv
    obtain ⟨c,h1,h2⟩:=Ao.get hl hv
    obtain ⟨i,fields,zs,g1,g2,g3,g4,g5,g6,g7,g8,g9⟩:=hT t _ ht
    obtain ⟨fl,d,q1,q2,q3,q4⟩:=g9 f o' hf
    refine AG hK (c:=c) (w':=w) ?_ h (AQ.of h2) (V.AK.1 k)
    have hc:vs.toArray[o']? =some c:=by simpa using h1
    simp only [execOp,ho,e,Instr.field,Sem.run_bind,Ay g2,Result.andThen_ok,q1,asAgg,Sem.run_pure,q2]
    unfold part
    simp only [Sem.run_bind,Kr q3,q4,Result.andThen_ok,hc,Bool.false_eq_true,if_false]
    rfl
   simp_all
  simp_all
 simp_all
theorem OH {t:TypeId} {x i:Operand} (hT:Gc P T) (hK:Cr D I0 st0 w0 β env.BG a o.dst next K) (h:Rel D I0 st0 w0 I β env st a w) (ho:o.op=.indexAddr t x i)
 (k:match assoc T t,env.eval x,env.eval i with
 |some (.slice _ sz' _),.slice sz es _,.int _ n=>Dx (Nat.beq sz' sz) (0<=n/\∃e,es[n.toNat]? =some e/\K (.FY e 0) env st)
 |some (.slice _ sz' _),.Fp sz b m _,.int _ n=>Dx (Nat.beq sz' sz) ((0<=n/\n<(m:Int))/\∀k,k=n.toNat*sz->K (.ptr b k) env st)
 |some (.arr offs _),.B3 id off,.int _ n=>(match n with
  | .ofNat m=>(match offs[m]? with|some (o,_)=>K (.B3 id (off+o)) env st|none=>False)
  | .negSucc _=>False)
 |_,_,_=>False):o.wp P a w next Qc:=by
 have hx:=h.f.eval x
 have hi:=h.f.eval i
 split at k
 .rename_i el sz' by' sz es own kd n ht hex hei
  rw [hex] at hx
  rw [hei] at hi
  have hi:=FW hi
  obtain ⟨hsz,h0,e,he,k1⟩:=As.1 k
  clear k
  have hsz:=Nat.eq_of_beq_eq_true hsz
  subst hsz
  obtain ⟨ad,cap,e1,e2,e3,e4,e5,e6⟩:=DI hx
  obtain ⟨i0,j,c,h1,h2,h3,h4,h5,h6,h7,h8,_⟩:=hT t _ ht
  have hlt:n.toNat<es.length:=by
   rcases Nat.lt_or_ge n.toNat es.length with h|h
   .exact h
   .simp_all
  cases ad with
  |none=>omega
  |some ad=>
   obtain ⟨b,off,spot⟩:=ad
   simp only at e6
   obtain ⟨e0,e6⟩:=e6
   obtain rfl:spot=none:=e0.resolve_left AC
   obtain ⟨g1,g2⟩:=B8.get e6 he
   refine AG hK (c:=.pointer (some ⟨b,off+n.toNat*sz',none⟩)) (w':=w) (v:=.FY e 0) ?_ h (AQ.of (by simp only [AH];grind)) k1
   have U:(0<=n/\n<(es.length:Int)):=⟨h0,AC⟩
   simp only [execOp,ho,Instr.indexAt,hi,e1,asIntOf,Sem.run_bind,Sem.run_pure,Result.andThen_ok,Ay h2]
   rw [if_pos U]
   simp only [Sem.run_bind,BX h5,h6,Result.andThen_ok,Sem.run_pure,B9]
 .rename_i el sz' by' sz b m cap kd n ht hex hei
  rw [hex] at hx
  rw [hei] at hi
  have hi:=FW hi
  obtain ⟨hsz,U,k1⟩:=As.1 k
  clear k
  have hsz:=Nat.eq_of_beq_eq_true hsz
  subst hsz
  obtain ⟨e1,e2,e3,e4⟩:=MC hx
  obtain ⟨i0,j,c,h1,h2,h3,h4,h5,h6,h7,h8,_⟩:=hT t _ ht
  refine AG hK (c:=.pointer (some ⟨b,n.toNat*sz',none⟩)) (w':=w) (v:=.ptr b (n.toNat*sz')) ?_ h (AQ.of H1) (k1 _ rfl)
  simp only [execOp,ho,Instr.indexAt,hi,e1,asIntOf,Sem.run_bind,Sem.run_pure,Result.andThen_ok,Ay h2]
  rw [if_pos U]
  simp only [Sem.run_bind,BX h5,h6,Result.andThen_ok,Sem.run_pure,B9,Nat.zero_add]
 .rename_i offs z id off kd n ht hex hei
  rw [hex] at hx
  rw [hei] at hi
  replace hi:=FW hi
  obtain ⟨b,hb,hx⟩:=G3 hx
  split at k
  .rename_i m
   split at k
   .rename_i p f s hf
    obtain ⟨i0,len,e,j,zs,h1,h2,h3,h4,h5,h6,h7⟩:=hT t _ ht
    obtain ⟨q1,_,q3⟩:=h7 m f s hf
    subst q1
    refine AG hK (c:=.pointer (some ⟨b,off+m*j.size,none⟩)) (w':=w) ?_ h (show AQ I β (.B3 id (off+m*j.size)) _ from ⟨b,hb,rfl⟩) k
    have U:(0<=(m:Int)/\(m:Int)<(len:Int)):=⟨AC,AC⟩
    simp only [execOp,ho,Instr.indexAt,hi,hx,asIntOf,Sem.run_bind,Sem.run_pure,Result.andThen_ok,Ay h2,Instr.sureAddr,Int.ofNat_eq_natCast]
    rw [if_pos U]
    simp only [Sem.run_bind,BX h6,Result.andThen_ok,Sem.run_pure,B9,Int.toNat_natCast]
   .exact k.elim
  .exact k.elim
 simp_all
theorem Xt {t:TypeId} {x i:Operand} (hT:Gc P T) (hK:Cr D I0 st0 w0 β env.BG a o.dst next K) (h:Rel D I0 st0 w0 I β env st a w) (ho:o.op=.index t x i)
 (k:match assoc T t,env.eval x,env.eval i with
 |some (.sc (.str _)),.str s,.int _ n=>0<=n/\∃e,s[n.toNat]? =some e/\K (.int .u8 e.toNat) env st
 |_,_,_=>False):o.wp P a w next Qc:=by
 have hx:=h.f.eval x
 have hi:=h.f.eval i
 split at k
 .rename_i z s kd n ht hex hei
  rw [hex] at hx
  rw [hei] at hi
  have hi:=FW hi
  obtain ⟨hx,hlen⟩:=Uq hx
  obtain ⟨h0,e,he,k⟩:=k
  obtain ⟨i0,d,c,h1,h2,h3,h4,h5,h6,h7,h8,h9,U⟩:=hT t _ ht
  simp only at U
  subst U
  refine AG hK (c:=.int .u8 e.toNat) (w':=w) (v:=.int .u8 e.toNat) ?_ h (AQ.of H1) k
  have hg:(⟨s.toArray⟩:ByteArray)[n.toNat]? =some e:=by
   have hlt:n.toNat<s.length:=by
    rcases Nat.lt_or_ge n.toNat s.length with h|h
    .exact h
    .simp_all
   rw [getElem?_pos (⟨s.toArray⟩:ByteArray) n.toNat (by show n.toNat<s.toArray.size;omega)]
   show some (s.toArray[n.toNat])=some e
   rw [List.getElem?_eq_getElem hlt] at he
   simpa using he
  simp only [execOp,ho,Instr.index,hi,hx,asIntOf,Sem.run_bind,Sem.run_pure,Result.andThen_ok,Ay h2]
  simp_all
 simp_all
theorem Iq {n:Int} {y:Nat} {U:IntKind} {code:BoundsCode} (h:0<=n/\n<=(y:Int)):(Instr.sliceBound (.int U n) y code).run P w=.ok n.toNat w:=by
 simp only [Instr.sliceBound,asIntOf,Sem.run_bind,Sem.run_pure,Result.andThen_ok]
 simp_all
theorem M7 {len cap:Nat} {lo hi:Option Operand} {kl kh:IntKind} {l h:Int} (hF:Rel D I0 st0 w0 I β env st a w) (isS:Bool)
 (U:(lo.map env.eval).getD (.int .i64 0)=.int kl l) (hh:(hi.map env.eval).getD (.int .i64 len)=.int kh h)
 (h0:0<=l) (h1:l<=h) (h2:h<=(len:Int)) (h3:len<=cap):
 (Instr.sliceBounds isS len cap (lo.map a.eval) (hi.map a.eval) none).run P w=.ok (l.toNat,h.toNat,cap) w:=by
 have hhi:∀x,hi=some x->a.eval x=.int kh h:=λx e=>by
  subst e
  simp only [Option.map_some,Option.getD_some] at hh
  have:=hF.f.eval x
  rw [hh] at this
  exact FW this
 have hlo:∀x,lo=some x->a.eval x=.int kl l:=λx e=>by
  subst e
  simp only [Option.map_some,Option.getD_some] at U
  have:=hF.f.eval x
  rw [U] at this
  exact FW this
 have b1:∀code:BoundsCode,(Instr.sliceBound (.int kh h) cap code).run P w=.ok h.toNat w:=λcode=>Iq ⟨AC,AC⟩
 have b2:∀code:BoundsCode,(Instr.sliceBound (.int kl l) h.toNat code).run P w=.ok l.toNat w:=λcode=>Iq ⟨AC,AC⟩
 cases hi with
 |none=>
  simp only [Option.map_none,Option.getD_none,V.int.injEq] at hh
  obtain ⟨_,rfl⟩:=hh
  simp only [Int.toNat_natCast] at b2 |-
  cases lo with
  |none=>
   simp only [Option.map_none,Option.getD_none,V.int.injEq] at U
   obtain ⟨_,rfl⟩:=U
   rfl
  |some x=>
   simp only [Instr.sliceBounds,Option.map_some,Option.map_none,hlo x rfl,Sem.run_bind,Sem.run_pure,Result.andThen_ok,b2]
 |some y=>
  cases lo with
  |none=>
   simp only [Option.map_none,Option.getD_none,V.int.injEq] at U
   obtain ⟨_,rfl⟩:=U
   simp only [Instr.sliceBounds,Option.map_some,Option.map_none,hhi y rfl,Sem.run_bind,Sem.run_pure,Result.andThen_ok,b1]
   rfl
  |some x=>
   simp only [Instr.sliceBounds,Option.map_some,hhi y rfl,hlo x rfl,Sem.run_bind,Sem.run_pure,Result.andThen_ok,b1,b2]
theorem Xw {t:TypeId} {x:Operand} {lo hi:Option Operand} (hT:Gc P T) (hK:Cr D I0 st0 w0 β env.BG a o.dst next K) (h:Rel D I0 st0 w0 I β env st a w) (ho:o.op=.slice t x lo hi none)
 (k:match assoc T t,env.eval x with
 |some (.slice _ sz' _),.slice sz es _=>
  match (lo.map env.eval).getD (.int .i64 0),(hi.map env.eval).getD (.int .i64 es.length) with
  | .int _ l,.int _ h=>Dx (Nat.beq sz' sz) ((0<=l/\l<=h/\h<=es.length)/\∀es',es'=(es.take h.toNat).drop l.toNat->K (.slice sz es' .any) env st)
  |_,_=>False
 |some (.sc (.str _)),.str s=>
  match (lo.map env.eval).getD (.int .i64 0),(hi.map env.eval).getD (.int .i64 s.length) with
  | .int _ l,.int _ h=>(0<=l/\l<=h/\h<=s.length)/\∀s',s'=(s.take h.toNat).drop l.toNat->K (.str s') env st
  |_,_=>False
 |some (.slice _ sz' _),.Fp sz b n cap=>
  match (lo.map env.eval).getD (.int .i64 0),(hi.map env.eval).getD (.int .i64 n) with
  | .int _ l,.int _ h=>Dx (Nat.beq sz' sz) ((l=0/\0<=h/\h<=n)/\∀k,k=h.toNat->K (.Fp sz b k cap) env st)
  |_,_=>False
 |_,_=>False):o.wp P a w next Qc:=by
 have hx:=h.f.eval x
 split at k
 .rename_i el sz' by' sz es own ht hex
  rw [hex] at hx
  split at k
  .rename_i kl l kh hh hel heh
   obtain ⟨U,⟨h0,h1,h2⟩,k1⟩:=As.1 k
   clear k
   have k1:=k1 _ rfl
   have U:=Nat.eq_of_beq_eq_true U
   subst U
   obtain ⟨ad,cap,e1,e2,e3,e4,e5,e6⟩:=DI hx
   obtain ⟨i0,j,c,g1,g2,g3,g4,g5,g6,g7,g8,_⟩:=hT t _ ht
   have hb:=M7 (P:=P) (cap:=cap) h true hel heh h0 h1 h2 e2
   have hlen:((es.take hh.toNat).drop l.toNat).length=hh.toNat - l.toNat:=UV
   refine AG hK (c:=.slice (if cap=l.toNat then ad else ad.map (·.add (l.toNat*sz'))) (hh.toNat - l.toNat) (cap - l.toNat)) (w':=w) ?_ h (AQ.of ?_) k1
   .have hu:(underlying t).run P w=.ok (.slice el) w:=Ay g2
    simp only [execOp,ho,Instr.sliceAt,Option.map_none,Sem.run_bind,hu,Result.andThen_ok,Instr.slice,e1,hb,BX g5,g6,Sem.run_pure]
   .simp only [AH]
    refine ⟨_,cap - l.toNat,by rw [hlen],AC,AC,e4,trivial,?_⟩
    cases ad with
    |none=>grind
    |some ad=>
     simp only at e6
     obtain ⟨s1,s2⟩:=e6
     split
     .grind
     .rename_i ad' hc
      split at hc
      .rename_i hcap
       injection hc with hc
       subst hc
       refine ⟨.inl AC,?_⟩
       have:(es.take hh.toNat).drop l.toNat=[]:=List.eq_nil_of_length_eq_zero AC
       rw [this];simp only [B8]
      .simp only [Option.map_some,Option.some.injEq] at hc
       subst hc
       rename_i hne
       obtain ⟨b,off,spot⟩:=ad
       obtain rfl:spot=none:=s1.resolve_left AC
       rw [B9]
       exact ⟨.inr rfl,B8.drop _ (B8.take _ s2)⟩
  simp_all
 .rename_i z s ht hex
  rw [hex] at hx
  obtain ⟨hx,hlim⟩:=Uq hx
  split at k
  .rename_i kl l kh hh hel heh
   obtain ⟨⟨h0,h1,h2⟩,k⟩:=k
   have k:=k _ rfl
   obtain ⟨i0,d,c,g1,g2,g3,g4,g5,g6,g7,g8,g9,g10⟩:=hT t _ ht
   simp only at g10
   subst g10
   have hb:=M7 (P:=P) (cap:=s.length) h false hel heh h0 h1 h2 (Nat.le_refl _)
   refine AG hK (c:=.string ⟨((s.take hh.toNat).drop l.toNat).toArray⟩) (w':=w) ?_ h (AQ.of (by simp only [AH];grind)) k
   have hu:(underlying t).run P w=.ok .string w:=Ay g2
   have hs:(⟨s.toArray⟩:ByteArray).size=s.length:=by show s.toArray.size=_;simp
   simp only [execOp,ho,Instr.sliceAt,Option.map_none,Sem.run_bind,hu,Result.andThen_ok,Instr.slice,hx,Option.isSome_none,Bool.false_eq_true,if_false,Sem.run_pure,hs,hb]
   congr 3
   apply ByteArray.ext
   apply Array.ext'
   simp [ByteArray.data_extract,List.drop_take]
  simp_all
 .rename_i el sz' by' sz b n cap ht hex
  rw [hex] at hx
  split at k
  .rename_i kl l kh hh hel heh
   obtain ⟨U,⟨h0,h1,h2⟩,k1⟩:=As.1 k
   clear k
   have k1:=k1 _ rfl
   have U:=Nat.eq_of_beq_eq_true U
   subst U
   obtain ⟨e1,e2,e3,e4⟩:=MC hx
   obtain ⟨i0,j,c,g1,g2,g3,g4,g5,g6,g7,g8,_⟩:=hT t _ ht
   have hb:=M7 (P:=P) (cap:=cap) h true hel heh AC AC h2 e2
   subst h0
   refine AG hK (c:=.slice (some ⟨b,0,none⟩) hh.toNat cap) (w':=w) ?_ h (AQ.of ?_) k1
   .have hu:(underlying t).run P w=.ok (.slice el) w:=Ay g2
    simp only [execOp,ho,Instr.sliceAt,Option.map_none,Sem.run_bind,hu,Result.andThen_ok,Instr.slice,e1,hb,BX g5,g6,Sem.run_pure]
    have ha:(⟨b,0,none⟩:Addr).add 0=⟨b,0,none⟩:=by rw [B9]
    simp_all
   .simp only [AH]
    grind
  simp_all
 simp_all
end
end Go.Aw
