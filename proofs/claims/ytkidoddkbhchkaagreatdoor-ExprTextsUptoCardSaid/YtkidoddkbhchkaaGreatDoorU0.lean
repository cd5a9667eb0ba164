/-
  Parts of a proof: lemmas that the last text uses.
-/
import Derived.Tactics
import Derived.Laws.Cells
import Derived.Shelf.Unicode.DecodeSlow
import Derived.Lib.Space
import Derived.Laws.CopyRow
import Derived.ChangeKeysEq
import Derived.Laws.StructEq
import Derived.Laws.Append
import Derived.Laws.AppendOwn
import Derived.Laws.Strings
set_option linter.unusedVariables false
set_option linter.unusedSimpArgs false
set_option maxHeartbeats 16000000
theorem AC {P:Prop} (h:P:=by omega):P:=h
theorem Do {P:Prop} (h:P:=by decide):P:=h
theorem EQ {P:Prop} (h:P:=by kernel_rfl):P:=h
theorem FS {P:Prop} (h:P:=by assumption):P:=h
theorem GE {P:Prop} (h:P:=by decide +kernel):P:=h
theorem GT {P:Prop} (h:P:=by simp):P:=h
theorem IR {P:Prop} (h:P:=by first|assumption|omega):P:=h
theorem M2 {P:Prop} (h:P:=by rw [List.length_drop];omega):P:=h
theorem Nm {P:Prop} (h:P:=by rw [List.length_append];omega):P:=h
theorem NE {P:Prop} (h:P:=by rw [List.length_take];omega):P:=h
theorem Pi {P:Prop} (h:P:=by rw [List.length_append,List.length_singleton];omega):P:=h
theorem PP {P:Prop} (h:P:=by rw [List.length_singleton];omega):P:=h
theorem RK {P:Prop} (h:P:=by simp only [List.length_append,List.length_cons,List.length_nil];omega):P:=h
theorem So {P:Prop} (h:P:=by simp only [List.length_append,List.length_cons,List.length_nil]<;>omega):P:=h
theorem UV {P:Prop} (h:P:=by dsimp only;omega):P:=h
theorem cb {P:Prop} (h:P:=by simp;omega):P:=h
theorem i6 {P:Prop} (h:P:=by first|omega|(dsimp only<;>omega)):P:=h
theorem i7 {P:Prop} (h:P:=by first|omega|(simp only [List.length_append,List.length_cons,List.length_nil]<;>omega)|(dsimp only<;>omega)):P:=h
theorem ke {P:Prop} (h:P:=by first|omega|(simp only [List.length_append,List.length_cons,List.length_nil]<;>omega)):P:=h
theorem la {P:Prop} (h:P:=by show 0+_<=_;omega):P:=h
theorem lc {P:Prop} (h:P:=by simp_all):P:=h
namespace Go.Aw
open Go
inductive AF where
 |any|full|tok (b:Nat)
inductive V where
 |Cj
 |bool (b:Bool)
 |int (k:IntKind) (n:Int)
 |str (s:List UInt8)
 |agg (cs:List V)
 |Bh (vs:List V)
 |slice (sz:Nat) (es:List (List V)) (own:AF)
 |ptr (b:Nat) (off:Nat)
 |Cu (id:Nat) (off:Nat)
 |Iy (e:List V) (off:Nat)
 |Gl
 |func (f:FuncId) (first captured:List V)
 |AK
 |iface (t:TypeId) (v:V)
 |GH
 |O9 (s:List UInt8) (pos:Nat)
 |DM (sz b n cap:Nat)
 |ff (l:Nat)
def V.cells:V->List V
 | .agg cs=>cs
 |v=>[v]
def V.sc:V->Bool
 | .Cj| .agg _| .Bh _| .O9 _ _=>false
 |_=>true
def V.plain:V->Bool
 | .Cu _ _=>false
 |_=>true
def V.known:V->Bool
 | .Cu _ _| .Cj| .O9 _ _=>false
 |_=>true
def V.Ko:V->V
 | .slice sz es _=>.slice sz es .any
 |v=>v
def V.sy:V->V
 | .slice sz es _=>.slice sz es .any
 | .agg cs=>.agg (cs.map V.Ko)
 |v=>v
def V.wk:V->V
 | .slice sz es _=>.slice sz es .any
 | .agg cs=>.agg (cs.map V.Ko)
 | .Bh vs=>.Bh (vs.map V.sy)
 |v=>v
structure St where
 box:Nat->Option (List V)
 hw:Nat->Option Nat
def St.Ab (st:St) (b:Nat) (cs:List V):St:={st with box:=λx=>if x=b then some cs else st.box x}
def St.B2 (st:St) (b:Nat) (h:Nat):St:={st with hw:=λx=>if x=b then some h else st.hw x}
def St.Ex (st:St) (b:Nat):St:={st with hw:=λx=>if x=b then none else st.hw x}
def St.fresh (st:St) (b:Nat):Prop:=st.box b=none/\st.hw b=none
def St.le (a b:St):Prop:=(∀x cs,a.box x=some cs->b.box x=some cs)/\∀x h,a.hw x=some h->b.hw x=some h
theorem St.le_refl (a:St):a.le a:=⟨λ_ _ h=>h,λ_ _ h=>h⟩
theorem St.Au {a b:St} (h:a.le b) {x:Nat} (U:a.box x=none) (cs:List V):a.le (b.Ab x cs):=
 ⟨λy c hy=>by
   simp only [St.Ab]
   split
   .rename_i e;subst e;rw [U] at hy;cases hy
   .exact h.1 y c hy,h.2⟩
theorem St.KJ {a b:St} (h:a.le b) {x:Nat} (U:a.hw x=none) (n:Nat):a.le (b.B2 x n):=
 ⟨h.1,λy c hy=>by
   simp only [St.B2]
   split
   .rename_i e;subst e;rw [U] at hy;cases hy
   .exact h.2 y c hy⟩
theorem St.le_trans {a b c:St} (h:a.le b) (k:b.le c):a.le c:=⟨λx cs U=>k.1 x cs (h.1 x cs U),λx n U=>k.2 x n (h.2 x n U)⟩
inductive Ty where
 |sc (z:V)
 |slice (elem:TypeId) (sz bytes:Nat)
 |struct (offs:List (Nat×Nat)) (zero:List V)
 |arr (offs:List (Nat×Nat)) (zero:List V)
def Ty.zero:Ty->V
 | .sc z=>z
 | .slice _ sz _=>.slice sz [] .full
 | .struct _ z=>.agg z
 | .arr _ z=>.agg z
noncomputable def assoc {α:Type} (l:List (Nat×α)) (t:Nat):Option α:=
 List.rec (motive:=λ_=>Option α) none (λp _ U=>Bool.rec (motive:=λ_=>Option α) U (some p.2) (Nat.beq p.1 t)) l
theorem BC {α:Type} (k:Nat) (v:α) (r:List (Nat×α)) (t:Nat):assoc ((k,v)::r) t=bif Nat.beq k t then some v else assoc r t:=by
 show Bool.rec (motive:=λ_=>Option α) (assoc r t) (some v) (Nat.beq k t)=_
 cases Nat.beq k t<;>rfl
structure Env where
 tmps:List (Nat×V)
 boxes:List (Nat×List V)
 BI:Nat
 sz:Nat
 gl:List Nat
noncomputable def Env.get (e:Env) (t:Nat):V:=match assoc e.tmps t with|some v=>v|none=>.Cj
def FL:Operand->Bool
 | .const (.slice none 0 0)=>true
 |_=>false
def P9:Value->V
 | .bool b=>.bool b
 | .int k n=>.int k n
 | .string ⟨⟨l⟩⟩=>match Nat.blt l.length 4611686018427387904 with|true=>.str l|false=>.Cj
 | .nilFunc=>.AK
 | .nilIface=>.GH
 | .pointer none=>.Gl
 |_=>.Cj
noncomputable def Env.eval (e:Env):Operand->V
 | .tmp t=>e.get t
 | .const v=>P9 v
 | .func f=>.func f [] []
 | .global _=>.Cj
section
variable (T:List (Nat×Ty))
noncomputable def Env.Bz (e:Env) (t:TypeId) (x:Operand):V:=
 match FL x with
 |true=>match assoc T t with
  |some (.slice _ sz _)=>.slice sz [] .full
  |_=>.Cj
 |false=>e.eval x
end
def lit (b:Bool) (p q:Prop):Prop:=match b with|true=>p|false=>q
def D3 (b:Bool) (p:Prop):Prop:=match b with|true=>p|false=>False
theorem Ay {b:Bool} {p:Prop} (h:b=true) (k:p):D3 b p:=by subst h;exact k
theorem At {b:Bool} {p:Prop}:D3 b p↔b=true/\p:=by cases b<;>simp [D3]
inductive Bk (b:Bool) (p q:Prop):Prop where
 |mk:(b=true->p)->(b=false->q)->Bk b p q
theorem Wk {b:Bool} {p q:Prop} (h:b=true->p) (k:b=false->q):Bk b p q:=.mk h k
theorem Bg {p q:Prop}:Bk true p q↔p:=⟨λ⟨h,_⟩=>h rfl,λh=>.mk (λ_=>h) (λe=>by cases e)⟩
theorem Bb {p q:Prop}:Bk false p q↔q:=⟨λ⟨_,h⟩=>h rfl,λh=>.mk (λe=>by cases e) (λ_=>h)⟩
theorem Wi {p q:Prop} (h:p):Bk true p q:=Bg.2 h
theorem Wj {p q:Prop} (h:q):Bk false p q:=Bb.2 h
def V.force (v:V) (K:V->Prop):Prop:=
 match v with
 | .Cj=>K .Cj
 | .bool b=>K (.bool b)
 | .int k n=>K (.int k n)
 | .str s=>K (.str s)
 | .agg cs=>K (.agg cs)
 | .Bh vs=>K (.Bh vs)
 | .slice sz es o=>K (.slice sz es o)
 | .ptr b o=>K (.ptr b o)
 | .Cu b o=>K (.Cu b o)
 | .Iy b o=>K (.Iy b o)
 | .Gl=>K .Gl
 | .func f a c=>K (.func f a c)
 | .AK=>K .AK
 | .iface t v=>K (.iface t v)
 | .GH=>K .GH
 | .O9 s n=>K (.O9 s n)
 | .DM sz b n c=>K (.DM sz b n c)
 | .ff l=>K (.ff l)
theorem V.AP {v:V} {K:V->Prop}:v.force K↔K v:=by
 cases v<;>exact Iff.rfl
def V.part (v:V) (K:V->Prop):Prop:=
 match v with
 | .bool b=>Bk b (K (.bool true)) (K (.bool false))
 |v=>v.force K
theorem V.Ni {v:V} {K:V->Prop}:v.part K↔K v:=by
 cases v with
 |bool b=>cases b<;>first|exact Bb|exact Bg
 |_=>simp only [V.part,V.AP]
def bh (l:List V):(List V->Prop)->Prop:=
 List.rec (motive:=λ_=>(List V->Prop)->Prop) (λK=>K []) (λv _ U K=>v.part λv=>U λr=>K (v::r)) l
theorem Zd (v:V) (r:List V) (K:List V->Prop):bh (v::r) K=v.part λv=>bh r λr=>K (v::r):=rfl
theorem SM:∀{l:List V} {K:List V->Prop},bh l K↔K l
 |[],_=>Iff.rfl
 |v::r,K=>by rw [Zd,V.Ni,SM]
def V.back (v:V) (K:V->Prop):Prop:=
 match v with
 | .Bh vs=>bh vs λvs=>K (.Bh vs)
 |v=>v.part K
theorem V.Qf {v:V} {K:V->Prop}:v.back K↔K v:=by
 cases v with
 |Bh vs=>exact SM
 |_=>simp only [V.back,V.Ni]
def GD (l:List V):(List V->Prop)->Prop:=
 List.rec (motive:=λ_=>(List V->Prop)->Prop) (λK=>K []) (λv _ U K=>v.force λv=>U λr=>K (v::r)) l
theorem Vt (v:V) (r:List V) (K:List V->Prop):GD (v::r) K=v.force λv=>GD r λr=>K (v::r):=rfl
theorem BD:∀{l:List V} {K:List V->Prop},GD l K↔K l
 |[],_=>Iff.rfl
 |v::r,K=>by rw [Vt,V.AP,BD]
def MX (l:List (List V)):(List (List V)->Prop)->Prop:=
 List.rec (motive:=λ_=>(List (List V)->Prop)->Prop) (λK=>K []) (λv _ U K=>GD v λv=>U λr=>K (v::r)) l
theorem TL (v:List V) (r:List (List V)) (K:List (List V)->Prop):MX (v::r) K=GD v λv=>MX r λr=>K (v::r):=rfl
theorem Ie:∀{l:List (List V)} {K:List (List V)->Prop},MX l K↔K l
 |[],_=>Iff.rfl
 |v::r,K=>by rw [TL,BD,Ie]
inductive AL where
 |ret (v:V)
 |Cz (v:V)
inductive AM where
 |normal|exit (id:Nat)|goto (l:Nat)|ret|Cz (v:V)
def Fe:Nat:=4611686018427387904
def UM (env:Env) (l:List Operand):(List V->Prop)->Prop:=
 List.rec (motive:=λ_=>(List V->Prop)->Prop) (λK=>K []) (λx _ U K=>(env.eval x).force λv=>D3 v.plain (U λvs=>K (v::vs))) l
theorem Vi (env:Env) (x:Operand) (r:List Operand) (K:List V->Prop):UM env (x::r) K=(env.eval x).force λv=>D3 v.plain (UM env r λvs=>K (v::vs)):=rfl
section
variable (T:List (Nat×Ty))
def Yu (env:Env) (ts:List TypeId) (l:List Operand):(List V->Prop)->Prop:=
 List.rec (motive:=λ_=>List TypeId->(List V->Prop)->Prop) (λ_ K=>K [])
  (λx _ U ts K=>(env.Bz T (ts.headD 0) x).force λv=>D3 v.plain (U ts.tail λvs=>K (v::vs))) l ts
theorem Sw (env:Env) (ts:List TypeId) (x:Operand) (r:List Operand) (K:List V->Prop):
 Yu T env ts (x::r) K=(env.Bz T (ts.headD 0) x).force λv=>D3 v.plain (Yu T env ts.tail r λvs=>K (v::vs)):=rfl
end
def bin (op:BinOp) (x y:V) (K:V->Prop):Prop:=
 match x,y with
 | .int k a,.int U b=>
   D3 (decide (k=U)) (match op with
   | .add=>∃r,r=k.wrap (a+b)/\K (.int k r)
   | .sub=>∃r,r=k.wrap (a - b)/\K (.int k r)
   | .mul=>∃r,r=k.wrap (a*b)/\K (.int k r)
   | .quo=>b≠0/\∃r,r=k.wrap (a.tdiv b)/\K (.int k r)
   | .rem=>b≠0/\K (.int k (a.tmod b))
   | .and=>∃r,r=k.wrap ((BitVec.ofInt k.bits a&&&BitVec.ofInt k.bits b).toNat:Int)/\K (.int k r)
   | .eql=>Bk (a==b) (K (.bool true)) (K (.bool false))
   | .neq=>Bk (a==b) (K (.bool false)) (K (.bool true))
   | .lss=>Bk (decide (a<b)) (K (.bool true)) (K (.bool false))
   | .leq=>Bk (decide (a<=b)) (K (.bool true)) (K (.bool false))
   | .gtr=>Bk (decide (b<a)) (K (.bool true)) (K (.bool false))
   | .geq=>Bk (decide (b<=a)) (K (.bool true)) (K (.bool false))
   |_=>False)
 | .str a,.str b=>
   match op with
   | .add=>a.length+b.length<Fe/\K (.str (a++b))
   | .eql=>Bk (a==b) (K (.bool true)) (K (.bool false))
   | .neq=>Bk (a==b) (K (.bool false)) (K (.bool true))
   |_=>False
 |_,_=>False
def fX (z x y:V):Option Bool:=
 match z,x,y with
 | .int _ _,.int k a,.int U b=>bif decide (k=U) then some (a==b) else none
 | .str _,.str a,.str b=>some (a==b)
 | .bool _,.bool a,.bool b=>some (a==b)
 |_,_,_=>none
noncomputable def mH (z:List V):List V->List V->Option Bool:=
 List.rec (motive:=λ_=>List V->List V->Option Bool) (λU ys=>match U,ys with|[],[]=>some true|_,_=>none)
  (λz _ ih U ys=>match U,ys with
    |x::U,y::ys=>match fX z x y,ih U ys with
     |some a,some b=>some (a&&b)
     |_,_=>none
    |_,_=>none) z
theorem da (z:V) (r U ys:List V):mH (z::r) U ys=match U,ys with
 |x::U,y::ys=>match fX z x y,mH r U ys with
  |some a,some b=>some (a&&b)
  |_,_=>none
 |_,_=>none:=rfl
def hZ (z:List V):Bool:=z.all λ| .int _ _| .str _| .bool _=>true|_=>false
def isNilIface:Operand->Bool
 | .const .nilIface=>true
 |_=>false
def Mp (op:BinOp) (ty:Option Ty) (v:V) (K:V->Prop):Prop:=
 match ty with
 |some (.sc .GH)=>match op,v with
  | .eql,.GH=>K (.bool true)
  | .eql,.iface _ _=>K (.bool false)
  | .neq,.GH=>K (.bool false)
  | .neq,.iface _ _=>K (.bool true)
  |_,_=>False
 |_=>False
def Ra (op:BinOp) (ty:Option Ty) (v:V) (K:V->Prop):Prop:=
 match ty with
 |some (.slice _ _ _)=>match op,v with
  | .eql,.slice _ es _=>∀b:Bool,(b=true->es=[])->K (.bool b)
  | .neq,.slice _ es _=>∀b:Bool,(b=false->es=[])->K (.bool b)
  |_,_=>False
 |_=>False
def To (op:BinOp) (ty:Option Ty) (U:List V) (y:V) (K:V->Prop):Prop:=
 match ty,y with
 |some (.struct _ z),.agg ys=>D3 (hZ z) (match mH z U ys with
  |some b=>match op with
   | .eql=>Bk b (K (.bool true)) (K (.bool false))
   | .neq=>Bk b (K (.bool false)) (K (.bool true))
   |_=>False
  |none=>False)
 |_,_=>False
def Pn (op:BinOp) (ty:Option Ty) (a:Bool) (y:V) (K:V->Prop):Prop:=
 match ty,y with
 |some (.sc (.bool _)),.bool b=>match op with
  | .eql=>Bk a (Bk b (K (.bool true)) (K (.bool false))) (Bk b (K (.bool false)) (K (.bool true)))
  | .neq=>Bk a (Bk b (K (.bool false)) (K (.bool true))) (Bk b (K (.bool true)) (K (.bool false)))
  |_=>False
 |_,_=>False
def cA (op:BinOp) (ty:Option Ty) (x y:V) (K:V->Prop):Prop:=
 match x with
 | .agg U=>To op ty U y K
 | .bool a=>Pn op ty a y K
 |x=>bin op x y K
def V.O8:V->Bool
 | .O9 _ _=>false
 |_=>true
def O8:List V->Bool
 |[v]=>v.O8
 |_=>true
def DD (cs:List V) (off:Nat) (ty:Option Ty) (K:V->Prop):Prop:=
 D3 (O8 cs) (match ty with
 |some (.struct _ z)=>
  match Nat.beq off 0&&Nat.beq z.length cs.length with
  |true=>K (.agg cs)
  |false=>D3 (Nat.ble (off+z.length) cs.length) (GD ((cs.drop off).take z.length) λl=>K (.agg l))
 |some (.arr _ _)=>False
 |some _=>match cs[off]? with|some v=>v.force K|none=>False
 |none=>False)
def E7 (cs:List V) (off:Nat) (new:List V) (K:List V->Prop):Prop:=
 D3 (O8 cs) (D3 (Nat.ble (off+new.length) cs.length) (D3 (new.all V.sc) (GD (cs.take off++new++cs.drop (off+new.length)) K)))
def MW (U:List (Nat×Nat)) (cs:List V) (l:List (Nat×V)):(List V->Prop)->Prop:=
 List.rec (motive:=λ_=>List V->(List V->Prop)->Prop) (λcs K=>GD cs K) (λp _ ih cs K=>match U[p.1]? with
  |some (off,size)=>D3 (Nat.beq p.2.cells.length size) (D3 (Nat.ble (off+size) cs.length) (ih (cs.take off++p.2.cells++cs.drop (off+size)) K))
  |none=>False) l cs
theorem QK (U:List (Nat×Nat)) (cs:List V) (i:Nat) (v:V) (r:List (Nat×V)) (K:List V->Prop):MW U cs ((i,v)::r) K=(match U[i]? with
 |some (off,size)=>D3 (Nat.beq v.cells.length size) (D3 (Nat.ble (off+size) cs.length) (MW U (cs.take off++v.cells++cs.drop (off+size)) r K))
 |none=>False):=rfl
def Hk (env:Env) (l:List (Nat×Operand)):(List (Nat×V)->Prop)->Prop:=
 List.rec (motive:=λ_=>(List (Nat×V)->Prop)->Prop) (λK=>K []) (λp _ U K=>(env.eval p.2).force λv=>D3 v.known (U λvs=>K ((p.1,v)::vs))) l
theorem MU (env:Env) (i:Nat) (x:Operand) (r:List (Nat×Operand)) (K:List (Nat×V)->Prop):
 Hk env ((i,x)::r) K=(env.eval x).force λv=>D3 v.known (Hk env r λvs=>K ((i,v)::vs)):=rfl
def Nz:Nat->List (Nat×Operand)->Bool
 |_,[]=>true
 |n,(i,_)::r=>Nat.beq i n&&Nz (n+1) r
def Env.il (e:Env) (d:Option Nat):Bool:=match d with|some t=>e.gl.any (Nat.beq t)|none=>false
def N4 (env:Env) (st:St) (d:Option Nat) (cs:List V) (K:V->Env->St->Prop):Prop:=
 match env.il d with
 |true=>GD cs λcs=>∀b,st.fresh b->K (.ptr b 0) env (st.Ab b cs)
 |false=>GD cs λcs=>match env with
  |⟨ts,bs,n,sz,gl⟩=>K (.Cu n 0) ⟨ts,(n,cs)::bs,n+1,sz,gl⟩ st
def Ag (sz bytes:Nat) (es:List (List V)) (own:AF) (new:List (List V)) (st:St) (K:V->St->Prop):Prop:=
 (es.length+new.length)*bytes<=140737488355328/\es.length+new.length<Fe/\D3 (new.all λv=>v.all V.sc) (
 match own with
 | .any=>False
 | .full=>(new=[]->K (.slice sz es .full) st)/\
    (new≠[]->(∀b,st.fresh b->K (.slice sz (es++new.map (·.map V.Ko)) (.tok b)) (st.B2 b ((es.length+new.length)*sz)))\/
      ∀b cap m,st.fresh b->(es.length+new.length)*sz+m=cap*sz->K (.DM sz b (es.length+new.length) cap) (st.Ab b ((es++new.map (·.map V.Ko)).flatten++List.replicate m .Cj)))
 | .tok b=>st.hw b=some (es.length*sz)/\
    ∀U,(U=b\/st.fresh U)->K (.slice sz (es++new.map (·.map V.Ko)) (.tok U)) ((st.Ex b).B2 U ((es.length+new.length)*sz)))
def ES (sz bytes b n cap:Nat) (new:List (List V)) (st:St) (K:V->St->Prop):Prop:=
 (n+new.length)*bytes<=140737488355328/\n+new.length<Fe/\D3 (new.all λv=>v.all V.sc) (new≠[]/\∃cs,st.box b=some cs/\cs.length=cap*sz/\
   ∀b' U m,(b'=b\/st.fresh b')->(n+new.length)*sz+m=U*sz->K (.DM sz b' (n+new.length) U) (st.Ab b' (cs.take (n*sz)++(new.map (·.map V.Ko)).flatten++List.replicate m .Cj)))
def AF.st (st:St) (n:Nat):AF->St
 | .tok b=>st.B2 b n
 |_=>st
def AF.BH (st:St):AF->Prop
 | .full=>True
 | .tok b=>st.fresh b
 | .any=>False
theorem Hj {sz bytes:Nat} {es:List (List V)} {own:AF} {new:List (List V)} {st:St} {K:V->St->Prop} (h:own.BH st)
 (h1:(es.length+new.length)*bytes<=140737488355328) (h2:es.length+new.length<Fe) (h3:(new.all λv=>v.all V.sc)=true)
 (k:∀U:AF,U.BH st->K (.slice sz (es++new.map (·.map V.Ko)) U) (U.st st ((es.length+new.length)*sz))):
 Ag sz bytes es own new (own.st st (es.length*sz)) K:=by
 refine ⟨h1,h2,Ay h3 ?_⟩
 cases own with
 |any=>exact h.elim
 |full=>exact ⟨λe=>by have:=k .full trivial;subst e;simpa using this,λ_=>.inl λb hb=>k (.tok b) hb⟩
 |tok b=>
  refine ⟨by simp [AF.st,St.B2],λb' hb'=>?_⟩
  have hf:st.fresh b:=h
  have e:(st.B2 b (es.length*sz)).Ex b=st:=by
   cases st
   simp only [St.B2,St.Ex,St.mk.injEq,true_and]
   funext x
   split
   .rename_i e;subst e;exact hf.2.symm
   .rfl
  show K _ (((st.B2 b (es.length*sz)).Ex b).B2 b' _)
  rw [e]
  refine k (.tok b') ?_
  rcases hb' with rfl|hb'
  .exact hf
  .refine ⟨hb'.1,?_⟩
   have:=hb'.2
   simp only [AF.st,St.B2] at this
   split at this
   .cases this
   .exact this
theorem RR {sz bytes:Nat} {es:List (List V)} {new:List (List V)} {st:St} {K:V->St->Prop}
 (U:(es.length+new.length)*bytes<=140737488355328) (h2:es.length+new.length<Fe) (h3:(new.all λv=>v.all V.sc)=true) (hn:new≠[])
 (k:∀b cap m,st.fresh b->(es.length+new.length)*sz+m=cap*sz->K (.DM sz b (es.length+new.length) cap) (st.Ab b ((es++new.map (·.map V.Ko)).flatten++List.replicate m .Cj))):
 Ag sz bytes es .full new st K:=⟨U,h2,Ay h3 ⟨λe=>absurd e hn,λ_=>.inr k⟩⟩
theorem AF.Ba {st:St} {own:AF} {n:Nat} (h:own.BH st):st.le (own.st st n):=by
 cases own with
 |any=>exact h.elim
 |full=>exact St.le_refl _
 |tok b=>exact St.KJ (St.le_refl _) (show st.fresh b from h).2 n
section
variable (P:Program) (T:List (Nat×Ty)) (C:FuncId->List V->St->(AL->St->Prop)->Prop)
def AU:List UInt8->Nat×Nat
 |[]=>(0,1)
 |a::l=>
  let cont (k:Nat):Bool:=match l[k]? with|some b=>b.toNat / 64==2|none=>false
  let U (k:Nat):Nat:=(l.getD k 0).toNat
  if a.toNat<128 then (a.toNat,1)
  else if a.toNat / 32==6&&cont 0 then
   (if a.toNat % 32*64+U 0 % 64>=128 then (a.toNat % 32*64+U 0 % 64,2) else (65533,1))
  else if a.toNat / 16==14&&cont 0&&cont 1 then
   (if a.toNat % 16*4096+U 0 % 64*64+U 1 % 64>=2048&&Utf8.valid ((a.toNat % 16*4096+U 0 % 64*64+U 1 % 64:Nat):Int) then (a.toNat % 16*4096+U 0 % 64*64+U 1 % 64,3) else (65533,1))
  else if a.toNat / 8==30&&cont 0&&cont 1&&cont 2 then
   (if a.toNat % 8*262144+U 0 % 64*4096+U 1 % 64*64+U 2 % 64>=65536&&Utf8.valid ((a.toNat % 8*262144+U 0 % 64*4096+U 1 % 64*64+U 2 % 64:Nat):Int) then (a.toNat % 8*262144+U 0 % 64*4096+U 1 % 64*64+U 2 % 64,4) else (65533,1))
  else (65533,1)
def Jg (o:Oper) (env:Env) (st:St) (K:V->Env->St->Prop) (Q:AM->Env->St->Prop):Prop:=
 match o.op with
 | .move x| .assign x=>(env.Bz T o.type x).force λv=>K v env st
 | .pick c a b=>match env.eval c with
   | .bool t=>lit t ((env.Bz T o.type a).force λv=>K v env st) ((env.Bz T o.type b).force λv=>K v env st)
   |_=>False
 | .alloc t=>match assoc T t with
   |some ty=>N4 env st o.dst ty.zero.cells K
   |none=>False
 | .box t x=>(env.Bz T t x).force λv=>D3 v.known (N4 env st o.dst v.cells K)
 | .build t parts=>match assoc T t with
   |some (.struct U z)=>Hk env parts.toList λps=>MW U z ps λcs=>K (.agg cs) env st
   |some (.arr U z)=>Hk env parts.toList λps=>MW U z ps λcs=>K (.agg cs) env st
   |_=>False
 | .buildSlice t len parts=>match assoc T t with
   |some (.slice _ sz _)=>D3 (Nz 0 parts.toList) (D3 (Nat.beq len parts.toList.length) (D3 (Nat.ble (len*sz) 16777216)
    (UM env (parts.toList.map (·.2)) λvs=>D3 (vs.all λv=>v.known&&Nat.beq v.cells.length sz) (MX (vs.map λv=>v.cells.map V.Ko) λes=>K (.slice sz es .full) env st))))
   |_=>False
 | .load t x=>match env.eval x with
   | .Cu id off=>match assoc env.boxes id with
     |some cs=>DD cs off (assoc T t) (λv=>K v env st)
     |none=>False
   | .ptr b off=>∃cs,st.box b=some cs/\DD cs off (assoc T t) (λv=>K v env st)
   | .Iy e off=>DD e off (assoc T t) (λv=>K v env st)
   |_=>False
 | .store t x y=>match env.eval x with
   | .Cu id off=>match assoc env.boxes id,assoc T t with
     |some cs,some ty=>match env with
      |⟨ts,bs,n,sz,gl⟩=>(Env.Bz T ⟨ts,bs,n,sz,gl⟩ t y).force λv=>D3 (v.known&&Nat.beq v.cells.length ty.zero.cells.length)
       (E7 cs off v.cells λcs'=>K .Cj ⟨ts,(id,cs')::bs,n,sz,gl⟩ st)
     |_,_=>False
   | .ptr b off=>match assoc T t with
     |some ty=>∃cs,st.box b=some cs/\(env.Bz T t y).force λv=>D3 (v.known&&Nat.beq v.cells.length ty.zero.cells.length)
       (E7 cs off v.cells λcs'=>K .Cj env (st.Ab b cs'))
     |none=>False
   |_=>False
 | .nilCheck x=>match env.eval x with
   | .Cu id off=>K (.Cu id off) env st
   | .ptr b off=>K (.ptr b off) env st
   | .Iy e off=>K (.Iy e off) env st
   |_=>False
 | .fieldAddr t x f=>match assoc T t,env.eval x with
   |some (.struct U _),.Cu id off=>match U[f]? with|some (o,s)=>D3 (Nat.blt 0 s) (K (.Cu id (off+o)) env st)|none=>False
   |some (.struct U _),.ptr b off=>match U[f]? with|some (o,s)=>D3 (Nat.blt 0 s) (K (.ptr b (off+o)) env st)|none=>False
   |some (.struct U _),.Iy e off=>match U[f]? with|some (o,s)=>D3 (Nat.blt 0 s) (K (.Iy e (off+o)) env st)|none=>False
   |_,_=>False
 | .binOp op t x y _=>match isNilIface y with
   |true=>Mp op (assoc T t) (env.eval x) λv=>K v env st
   |false=>match FL y with
    |true=>Ra op (assoc T t) (env.eval x) λv=>K v env st
    |false=>cA op (assoc T t) (env.eval x) (env.eval y) λv=>K v env st
 | .makeInterface t x=>match assoc T t with
   |some (.sc .GH)=>False
   |some _=>(env.Bz T t x).force λv=>D3 v.known (K (.iface t v) env st)
   |none=>False
 | .typeAssert x _ t ok=>match assoc T t with
   |some (.sc .GH)=>False
   |some ty=>match env.eval x with
    | .iface t' v=>bif Nat.beq t' t then D3 v.known (bif ok then K (.Bh [v,.bool true]) env st else v.force λv=>K v env st) else D3 ok (K (.Bh [ty.zero,.bool false]) env st)
    | .GH=>D3 ok (K (.Bh [ty.zero,.bool false]) env st)
    |_=>False
   |none=>False
 | .panic x=>match env.eval x with
   | .iface t v=>Q (.Cz (.iface t v)) env st
   |_=>False
 | .slice t x lo (some hi) (some mx)=>match assoc T t,env.eval x with
   |some (.slice _ sz' _),.slice sz es _=>
    match (lo.map env.eval).getD (.int .i64 0),env.eval hi,env.eval mx with
    | .int _ l,.int _ h,.int _ m=>D3 (Nat.beq sz' sz) ((0<=l/\l<=h/\h=m/\m<=es.length)/\∀es',es'=(es.take h.toNat).drop l.toNat->K (.slice sz es' .full) env st)
    |_,_,_=>False
   |_,_=>False
 | .unOp op _ x=>match op,env.eval x with
   | .not,.bool b=>lit b (K (.bool false) env st) (K (.bool true) env st)
   | .neg,.int k n=>∃r,r=k.wrap (0 - n)/\K (.int k r) env st
   |_,_=>False
 | .makeFunc (.func f) first cap=>UM env first.toList λa=>UM env cap.toList λc=>K (.func f a c) env st
 | .indexAddr t x i=>match assoc T t,env.eval x,env.eval i with
   |some (.slice _ sz' _),.slice sz es _,.int _ n=>D3 (Nat.beq sz' sz) (0<=n/\∃e,es[n.toNat]? =some e/\K (.Iy e 0) env st)
   |some (.slice _ sz' _),.DM sz b m _,.int _ n=>D3 (Nat.beq sz' sz) ((0<=n/\n<(m:Int))/\∀k,k=n.toNat*sz->K (.ptr b k) env st)
   |_,_,_=>False
 | .index t x i=>match assoc T t,env.eval x,env.eval i with
   |some (.sc (.str _)),.str s,.int _ n=>0<=n/\∃e,s[n.toNat]? =some e/\K (.int .u8 e.toNat) env st
   |_,_,_=>False
 | .slice t x lo hi none=>match assoc T t,env.eval x with
   |some (.slice _ sz' _),.slice sz es _=>
    match (lo.map env.eval).getD (.int .i64 0),(hi.map env.eval).getD (.int .i64 es.length) with
    | .int _ l,.int _ h=>D3 (Nat.beq sz' sz) ((0<=l/\l<=h/\h<=es.length)/\∀es',es'=(es.take h.toNat).drop l.toNat->K (.slice sz es' .any) env st)
    |_,_=>False
   |some (.sc (.str _)),.str s=>
    match (lo.map env.eval).getD (.int .i64 0),(hi.map env.eval).getD (.int .i64 s.length) with
    | .int _ l,.int _ h=>(0<=l/\l<=h/\h<=s.length)/\∀s',s'=(s.take h.toNat).drop l.toNat->K (.str s') env st
    |_,_=>False
   |some (.slice _ sz' _),.DM sz b n cap=>
    match (lo.map env.eval).getD (.int .i64 0),(hi.map env.eval).getD (.int .i64 n) with
    | .int _ l,.int _ h=>D3 (Nat.beq sz' sz) ((l=0/\0<=h/\h<=n)/\∀k,k=h.toNat->K (.DM sz b k cap) env st)
    |_,_=>False
   |_,_=>False
 | .field t x f=>match assoc T t,env.eval x with
   |some (.struct U _),.agg cs=>match U[f]? with
    |some (o,1)=>match cs[o]? with|some v=>v.force λv=>K v env st|none=>False
    |_=>False
   |_,_=>False
 | .extract x i=>match env.eval x with
   | .Bh vs=>match vs[i]? with|some v=>v.force λv=>K v env st|none=>False
   |_=>False
 | .convert t u x=>match assoc T t,assoc T u,env.eval x with
   |some (.sc (.int _ _)),some (.sc (.int k' _)),.int _ n=>∃r,r=k'.wrap n/\K (.int k' r) env st
   |_,_,_=>False
 | .range t x=>match assoc T t,env.eval x with
   |some (.sc (.str _)),.str s=>D3 (!env.il o.dst) (match env with
    |⟨ts,bs,n,sz,gl⟩=>K (.Cu n 0) ⟨ts,(n,[.O9 s 0])::bs,n+1,sz,gl⟩ st)
   |_,_=>False
 | .next x true=>match env.eval x with
   | .Cu id 0=>match assoc env.boxes id with
     |some [.O9 s pos]=>match env with
      |⟨ts,bs,n,sz,gl⟩=>Bk (decide (pos<s.length)) (∀c m,(c,m)=AU (s.drop pos)->K (.Bh [.bool true,.int .i64 pos,.int .i32 c]) ⟨ts,(id,[.O9 s (pos+m)])::bs,n,sz,gl⟩ st) (K (.Bh [.bool false]) ⟨ts,bs,n,sz,gl⟩ st)
     |_=>False
   |_=>False
 | .makeSlice t l c=>match assoc T t,env.eval l,env.eval c with
   |some (.slice el sz bytes),.int _ n,.int _ m=>(0<=n/\n<=m/\m*bytes<=140737488355328/\m<Fe)/\
    ((n=0/\∀b,st.fresh b->K (.slice sz [] (.tok b)) env (st.B2 b 0))\/
     (n=m/\match assoc T el with|some ty=>∀b k,st.fresh b->k=n.toNat->K (.DM sz b k k) env (st.Ab b (List.replicate k ty.zero.cells).flatten)|none=>False))
   |_,_,_=>False
 | .call c=>match c.callee with
   | .builtin .len=>match c.args.toList.map env.eval,c.argTypes.toList.map (assoc T) with
     |[.slice _ es _],[some (.slice _ _ _)]=>∀m:Nat,m=es.length->m<Fe->K (.int .i64 m) env st
     |[.str s],[some (.sc (.str _))]=>s.length<Fe->K (.int .i64 s.length) env st
     |[.DM _ _ n _],[some (.slice _ _ _)]=>n<Fe->K (.int .i64 n) env st
     |_,_=>False
   | .builtin .min=>match c.args.toList.map env.eval with
     |[.int k a,.int k' b]=>D3 (decide (k=k')) (∃r,r=(if b<a then b else a)/\K (.int k r) env st)
     |_=>False
   | .builtin .max=>match c.args.toList.map env.eval with
     |[.int k a,.int k' b]=>D3 (decide (k=k')) (∃r,r=(if a<b then b else a)/\K (.int k r) env st)
     |_=>False
   | .builtin .append=>match c.args.toList,c.argTypes.toList with
     |[x,y],[t,u]=>match assoc T t,assoc T u,env.Bz T t x,env.Bz T u y with
      |some (.slice _ sz bytes),some (.slice _ _ _),.slice sz' es own,.slice sz'' new _=>
       D3 (Nat.beq t u&&(Nat.beq sz sz'&&Nat.beq sz sz'')) (Ag sz bytes es own new st λv st'=>K v env st')
      |some (.slice _ sz bytes),some (.slice _ _ _),.DM sz' b n cap,.slice sz'' new _=>
       D3 (Nat.beq t u&&(Nat.beq sz sz'&&Nat.beq sz sz'')) (ES sz bytes b n cap new st λv st'=>K v env st')
      |_,_,_,_=>False
     |_,_=>False
   | .value f=>match env.eval f with
     | .func f a cap=>Yu T env c.argTypes.toList c.args.toList λvs=>GD (a++(vs++cap)) λvs=>C f vs st λr st'=>match r with
       | .ret v=>v.back λv=>K v env st'
       | .Cz v=>Q (.Cz v) env st'
     |_=>False
   |_=>False
 |_=>False
def Env.go (env:Env) (d:Option Nat) (v:V) (K:Env->Prop):Prop:=
 match env,d with
 |⟨ts,bs,n,sz,gl⟩,some t=>D3 (Nat.blt t sz) (K ⟨(t,v)::ts,bs,n,sz,gl⟩)
 |e,none=>K e
def Bt (all:List Oper) (o:Oper) (env:Env) (yes no:Prop):Prop:=
 match o.guard with
 |none=>yes
 |some (j,want)=>
  match ((all[j]?).bind (·.dst)).map env.get with
  |some (.bool b)=>bif want then lit b yes no else lit b no yes
  |some (.Bh [])=>no
  |_=>False
def EL (all:List Oper) (Q:AM->Env->St->Prop) (l:List Oper):Env->St->Prop:=
 List.rec (motive:=λ_=>Env->St->Prop) (λenv st=>Q .normal env st)
  (λo _ U env st=>Bt all o env (Jg T C o env st (λv env st=>env.go o.dst v λenv=>U env st) Q) (env.go o.dst (.Bh []) λenv=>U env st)) l
theorem Rf (all:List Oper) (Q:AM->Env->St->Prop) (o:Oper) (r:List Oper) (env:Env) (st:St):EL T C all Q (o::r) env st=
 Bt all o env (Jg T C o env st (λv env st=>env.go o.dst v λenv=>EL T C all Q r env st) Q) (env.go o.dst (.Bh []) λenv=>EL T C all Q r env st):=rfl
noncomputable def Env.only (env:Env) (bs:List (Nat×List V)) (Dn:List Nat):Env:={env with tmps:=Dn.map λt=>(t,env.get t),boxes:=bs}
def Oper.Dn (all:List Oper) (o:Oper):List Nat:=
 (o.op.operands.toList.filterMap λ| .tmp t=>some t|_=>none)++(match o.guard with|some (j,_)=>((all[j]?).bind (·.dst)).toList|none=>[])
def Bv (all:List Oper) (o:Oper) (bs:List (Nat×List V)) (env:Env) (st:St) (v:V):Prop:=
 Jg T C o (env.only bs (Oper.Dn all o)) st (λU e s=>U=v/\e=env.only bs (Oper.Dn all o)/\s=st) (λ_ _ _=>False)
noncomputable def rW (env:Env) (o:Oper):Option Nat:=match o.op with
 | .store _ x _=>match env.eval x with
   | .Cu id _=>some id
   |_=>none
 |_=>none
noncomputable def G2 (env:Env) (all:List Oper) (o:Oper):Bool:=
 match o.op with
 | .store _ (.tmp x) _=> !(all.any λp=>p.dst==some x)&&(match env.get x with| .Cu _ _=>true|_=>false)
 | .store _ _ _=>false
 | .call ⟨.builtin .append,_,_⟩=>false
 | .range _ _| .next _ _| .makeSlice _ _ _=>false
 |_=>true
def HH (env:Env) (all:List Oper) (l:List Oper):(Nat->List (Option Nat)->Prop)->Prop:=
 List.rec (motive:=λ_=>(Nat->List (Option Nat)->Prop)->Prop) (λK=>K 0 [])
  (λo _ U K=>Bool.rec (motive:=λ_=>Prop) (K 0 []) (match rW env o with
    |some id=>U λk L=>K (k+1) (some id::L)
    |none=>U λk L=>K (k+1) (none::L)) (G2 env all o)) l
theorem R1 (env:Env) (all:List Oper) (o:Oper) (r:List Oper) (K:Nat->List (Option Nat)->Prop):HH env all (o::r) K=Bool.rec (motive:=λ_=>Prop) (K 0 []) (match rW env o with
 |some id=>HH env all r λk L=>K (k+1) (some id::L)
 |none=>HH env all r λk L=>K (k+1) (none::L)) (G2 env all o):=rfl
def II:List (Option Nat)->Bool
 |[]=>true
 |none::r=>II r
 |some a::r=> !(r.contains (some a))&&II r
noncomputable def Cd (L:List (Option Nat)) (bs:List (Nat×List V)):List (Nat×List V):=
 List.rec (motive:=λ_=>List (Nat×List V)) [] (λp _ U=>Bool.rec (motive:=λ_=>List (Nat×List V)) (p::U) U (L.contains (some p.1))) bs
def Env.up (env:Env) (K:Env->Prop):Prop:=match env with|⟨ts,bs,n,sz,gl⟩=>K ⟨ts,bs,n+1,sz,gl⟩
def Env.PA (env:Env) (cs:List V) (K:V->Env->Prop):Prop:=GD cs λcs=>match env with|⟨ts,bs,n,sz,gl⟩=>K (.Cu n 0) ⟨ts,(n,cs)::bs,n,sz,gl⟩
def Pu (all:List Oper) (o:Oper) (b1 U:List (Nat×List V)) (env:Env) (st:St) (K:V->Env->Prop):Prop:=
 match o.op with
 | .alloc t=>match assoc T t with
   |some ty=>D3 (!env.il o.dst) (env.PA ty.zero.cells K)
   |none=>False
 | .box t x=>D3 (!env.il o.dst) ((env.Bz T t x).force λv=>D3 v.known (env.PA v.cells K))
 | .store t x y=>match env.eval x with
   | .Cu id off=>match assoc b1 id,assoc T t with
     |some cs,some ty=>match env with
      |⟨ts,bs,n,sz,gl⟩=>(Env.Bz T ⟨ts,bs,n,sz,gl⟩ t y).force λv=>D3 (v.known&&Nat.beq v.cells.length ty.zero.cells.length)
       (E7 cs off v.cells λcs'=>K .Cj ⟨ts,(id,cs')::bs,n,sz,gl⟩)
     |_,_=>False
   |_=>False
 |_=>∃v,Bv T C all o U env st v/\v.part λv=>K v env
def ID (all:List Oper) (Q:AM->Env->St->Prop) (e0:Env) (b1 b0:List (Nat×List V)) (l:List Oper):Env->St->Prop:=
 List.rec (motive:=λ_=>Env->St->Prop) (λenv st=>Q .normal env st)
  (λo r U env st=>Bool.rec (motive:=λ_=>Prop) (EL T C all Q (o::r) env st)
    (Bt all o env (Pu T C all o b1 b0 env st λv env=>env.go o.dst v λenv=>env.up λenv=>U env st) (env.go o.dst (.Bh []) λenv=>env.up λenv=>U env st)) (G2 e0 all o)) l
theorem Vw (all:List Oper) (Q:AM->Env->St->Prop) (e0:Env) (b1 U:List (Nat×List V)) (o:Oper) (r:List Oper) (env:Env) (st:St):ID T C all Q e0 b1 U (o::r) env st=
 Bool.rec (motive:=λ_=>Prop) (EL T C all Q (o::r) env st)
  (Bt all o env (Pu T C all o b1 U env st λv env=>env.go o.dst v λenv=>env.up λenv=>ID T C all Q e0 b1 U r env st) (env.go o.dst (.Bh []) λenv=>env.up λenv=>ID T C all Q e0 b1 U r env st)) (G2 e0 all o):=rfl
def Bp (K:Env->St->Prop) (Q:AM->Env->St->Prop):AM->Env->St->Prop
 | .normal,e,s=>K e s
 |x,e,s=>Q x e s
def Qk (id:Nat) (Q:AM->Env->St->Prop):AM->Env->St->Prop
 | .exit U,a,w=>bif Nat.beq U id then Q .normal a w else Q (.exit U) a w
 |e,a,w=>Q e a w
noncomputable def V.T1 (bs:List (Nat×List V)):V->Bool
 | .Cu id _=>(assoc bs id).isSome
 |_=>true
def Env.le (env' env:Env):Prop:=
 env'.sz=env.sz/\(∀t v,assoc env'.tmps t=some v->v=.Cj\/(assoc env.tmps t=some v/\v.T1 env'.boxes=true))/\
 (∀id cs,assoc env'.boxes id=some cs->assoc env.boxes id=some cs)/\(∀id cs,assoc env'.boxes id=some cs->id<env'.BI)
def YT (env:Env) (bs:List (Nat×List V)):List (Nat×V)->Prop
 |[]=>True
 |(t,v)::r=>(match assoc env.tmps t with|some u=>u=v|none=>False)/\v.T1 bs=true/\YT env bs r
def TT (env:Env):List (Nat×List V)->Prop
 |[]=>True
 |(t,v)::r=>(match assoc env.boxes t with|some u=>u=v|none=>False)/\TT env r
def Env.C7 (env' env:Env):Prop:=env'.sz=env.sz/\YT env env'.boxes env'.tmps/\TT env env'.boxes/\(env'.boxes.all λp=>Nat.blt p.1 env'.BI)=true
theorem Gy {α:Type}:∀{l:List (Nat×α)} {t:Nat} {v:α},assoc l t=some v->(t,v) ∈ l
 |(k,u)::r,t,v,h=>by
  rw [BC] at h
  cases U:Nat.beq k t with
  |true=>
   rw [U] at h
   have:=Nat.eq_of_beq_eq_true U
   simp only [cond_true,Option.some.injEq] at h
   subst h;subst this;exact List.mem_cons_self
  |false=>rw [U] at h;exact List.mem_cons_of_mem _ (Gy h)
theorem QT {env:Env} {bs:List (Nat×List V)}:∀{l:List (Nat×V)},YT env bs l->∀p ∈ l,assoc env.tmps p.1=some p.2/\p.2.T1 bs=true
 |(t,v)::r,h,p,U=>by
  rcases List.mem_cons.1 U with rfl|U
  .refine ⟨?_,h.2.1⟩
   have h1:=h.1
   revert h1
   show (match assoc env.tmps t with|some u=>u=v|none=>False)->assoc env.tmps t=some v
   cases assoc env.tmps t with
   |none=>exact False.elim
   |some u=>intro e;rw [e]
  .exact QT h.2.2 p U
theorem OE {env:Env}:∀{l:List (Nat×List V)},TT env l->∀p ∈ l,assoc env.boxes p.1=some p.2
 |(t,v)::r,h,p,U=>by
  rcases List.mem_cons.1 U with rfl|U
  .have h1:=h.1
   revert h1
   show (match assoc env.boxes t with|some u=>u=v|none=>False)->assoc env.boxes t=some v
   cases assoc env.boxes t with
   |none=>exact False.elim
   |some u=>intro e;rw [e]
  .exact OE h.2 p U
theorem Env.Kf {env' env:Env} (h:env'.C7 env):env'.le env:=by
 refine ⟨h.1,λt v U=>.inr (QT h.2.1 (t,v) (Gy U)),λid cs hb=>OE h.2.2.1 (id,cs) (Gy hb),λid cs hb=>?_⟩
 have:=List.all_eq_true.1 h.2.2.2 (id,cs) (Gy hb)
 simpa [Nat.blt_eq] using this
def Dy:Op->Bool
 | .alloc _| .box _ _| .store _ _ _| .range _ _| .next _ _| .makeSlice _ _ _=>false
 |_=>true
def reaches (all:List Oper):Nat->Nat->Nat->Bool
 |0,_,_=>false
 |n+1,i,j=>match all[i]? with
  |some o=>(o.after.toList.any λe=>Region.binds .any e&&Nat.beq e.on j)||o.after.toList.any λe=>Region.binds .any e&&Nat.blt j e.on&&reaches all n e.on j
  |none=>false
def Mr (all:List Oper) (i j:Nat) (o p:Oper):Bool:=
 match p.dst with
 |none=>true
 |some t=> !(o.dst==some t)&&(!((Oper.Dn all o).contains t)||(if Nat.blt j i then reaches all all.length i j else reaches all all.length j i))
def Kx (k:Nat) (all:List Oper):Bool:=
 Nat.ble k all.length&&(List.range all.length).all λi=>match all[i]? with
  |none=>true
  |some o=>(o.after.toList.all λe=> !(Region.binds .any e)||Nat.blt e.on i)&&
   (bif Nat.blt i k then (List.range k).all λj=>Nat.beq i j||match all[j]? with|none=>true|some p=>Mr all i j o p
     else (List.range i).all λj=>reaches all all.length i j)
def LU:St:=⟨λ_=>none,λ_=>none⟩
def G6:Op->Bool
 | .move _| .assign _| .pick _ _ _| .load _ _| .fieldAddr _ _ _| .nilCheck _| .binOp _ _ _ _ _| .unOp _ _ _| .build _ _| .buildSlice _ _ _| .extract _ _| .field _ _ _| .makeFunc _ _ _| .index _ _ _| .indexAddr _ _ _| .slice _ _ _ _ _| .makeInterface _ _| .convert _ _ _=>true
 | .call ⟨.builtin .len,_,_⟩| .call ⟨.builtin .min,_,_⟩| .call ⟨.builtin .max,_,_⟩=>true
 |_=>false
def Gg:Op->Bool
 | .store _ _ _=>true
 |_=>false
noncomputable def NB (L:List Nat) (env:Env) (o:Oper):Bool:=match o.op with
 | .store _ x _=>match env.eval x with
   | .Cu id _=>L.contains id
   |_=>true
 |_=>true
noncomputable def aN (all:List Oper) (l:List (Nat×Bool)):List Nat->Bool:=
 List.rec (motive:=λ_=>List Nat->Bool) (λ_=>true) (λp r U done=>(match all[p.1]? with
  |some o=>(o.after.toList.all λe=> !(Region.binds .any e)||done.contains e.on)&&(bif p.2 then G6 o.op else (Dy o.op||Gg o.op))
  |none=>false)&&(!(done.contains p.1)&&((p.2||r.all λx=>reaches all all.length x.1 p.1)&&U (p.1::done)))) l
noncomputable def OH (sched:List (Nat×Bool)) (all:List Oper):Bool:=
 ((List.range all.length).all λi=>sched.any λp=>Nat.beq p.1 i)&&(aN all sched []&&(List.range all.length).all λi=>(List.range all.length).all λj=>Nat.beq i j||match all[i]?,all[j]? with
   |some o,some p=>Mr all i j o p
   |_,_=>true)
def Ix (S:List (Nat×Bool)) (all:List Oper) (i:Nat):Bool:=S.all λx=>x.2||reaches all all.length x.1 i
def HZ (S:List (Nat×Bool)) (all:List Oper) (i:Nat):Bool:=S.all λx=>x.2||((match all[x.1]? with|some o=> !Gg o.op|none=>false)||reaches all all.length x.1 i)
def Ik (all:List Oper) (S:List (Nat×Bool)) (L:List Nat) (b0:List (Nat×List V)) (Q:AM->Env->St->Prop) (l:List (Nat×Bool)):Env->St->Prop:=
 List.rec (motive:=λ_=>Env->St->Prop) (λenv st=>Q .normal env st) (λp _ U env st=>match all[p.1]? with
  |none=>False
  |some o=>match p.2 with
   |true=>Bt all o env (∃v,(Bv T C all o b0 env LU v\/(Ix S all p.1=true/\Bv T C all o env.boxes env st v)\/(HZ S all p.1=true/\Bv T C all o env.boxes env LU v))/\v.part λv=>env.go o.dst v λenv=>U env st) (env.go o.dst (.Bh []) λenv=>U env st)
   |false=>Bt all o env (D3 (NB L env o) (Jg T C o env st (λv env st=>env.go o.dst v λenv=>U env st) (λx _ s=>∀e',Q x e' s))) (env.go o.dst (.Bh []) λenv=>U env st)) l
theorem QZ (all:List Oper) (S:List (Nat×Bool)) (L:List Nat) (U:List (Nat×List V)) (Q:AM->Env->St->Prop) (p:Nat×Bool) (r:List (Nat×Bool)) (env:Env) (st:St):Ik T C all S L U Q (p::r) env st=(match all[p.1]? with
 |none=>False
 |some o=>match p.2 with
  |true=>Bt all o env (∃v,(Bv T C all o U env LU v\/(Ix S all p.1=true/\Bv T C all o env.boxes env st v)\/(HZ S all p.1=true/\Bv T C all o env.boxes env LU v))/\v.part λv=>env.go o.dst v λenv=>Ik T C all S L U Q r env st) (env.go o.dst (.Bh []) λenv=>Ik T C all S L U Q r env st)
  |false=>Bt all o env (D3 (NB L env o) (Jg T C o env st (λv env st=>env.go o.dst v λenv=>Ik T C all S L U Q r env st) (λx _ s=>∀e',Q x e' s))) (env.go o.dst (.Bh []) λenv=>Ik T C all S L U Q r env st)):=rfl
def aA (J:Nat->Env->St->Prop) (Q:AM->Env->St->Prop):AM->Env->St->Prop
 | .goto l,e,s=>J l e s
 |x,e,s=>Q x e s
abbrev CW:Type:=(AM->Env->St->Prop)->Env->St->Prop
abbrev uz:Type:=CW×(Nat->Option CW)
def rU (U:Option CW) (wb:CW) (lb:Option CW):Option CW:=
 match U with
 |some f=>some λQ env st=>f (Bp (wb Q) Q) env st
 |none=>lb
def PR (w:CW) (lw:Nat->Option CW) (Q:AM->Env->St->Prop) (env:Env) (st:St):Prop:=
 ∃(α:Type) (U:α->Nat) (E:α->Env) (S:α->St) (J:α->Prop) (μ:α->Nat),
  w (aA (λl env' st'=>∃y,U y=l/\J y/\(E y).C7 env'/\St.le (S y) st') Q) env st/\
  ∀x,J x->∃f,lw (U x)=some f/\f (aA (λl env' st'=>∃y,U y=l/\J y/\μ y<μ x/\(E y).C7 env'/\St.le (S y) st') Q) (E x) (S x)
noncomputable def MI (c:Code):uz:=
 Code.rec (motive:=λ_=>uz)
  ⟨λQ env st=>Q .normal env st,λ_=>none⟩
  (λ_ ops draw=>⟨λQ env st=>Bool.rec (motive:=λ_=>Prop) (EL T C ops.toList Q ops.toList env st) ((HH env ops.toList ops.toList λk L=>(Kx k ops.toList&&II L)=true/\ID T C ops.toList Q env env.boxes (Cd L env.boxes) ops.toList env st)\/∃(sched:List (Nat×Bool)) (L:List Nat),OH sched ops.toList=true/\Ik T C ops.toList sched L (Cd (L.map some) env.boxes) Q sched env st) draw,λ_=>none⟩)
  (λ_ _ iha U=>⟨λQ env st=>iha.1 (Bp (U.1 Q) Q) env st,λl=>rU (iha.2 l) U.1 (U.2 l)⟩)
  (λc _ _ iha U=>⟨λQ env st=>match env.eval c with
    | .bool t=>lit t (iha.1 Q env st) (U.1 Q env st)
    |_=>False,λ_=>none⟩)
  (λid _ ih=>⟨λQ env st=>ih.1 (Qk id Q) env st,λ_=>none⟩)
  (λ_ ih=>⟨λQ env st=>∃(α:Type) (E:α->Env) (S:α->St) (J:α->Prop) (μ:α->Nat) (x0:α),J x0/\(E x0).C7 env/\St.le (S x0) st/\
    ∀x,J x->ih.1 (Bp (λenv' st'=>∃y,J y/\μ y<μ x/\(E y).C7 env'/\St.le (S y) st') Q) (E x) (S x),λ_=>none⟩)
  (λ_ _ _ _ _ _=>⟨λ_ _ _=>False,λ_=>none⟩)
  (λid=>⟨λQ env st=>Q (.exit id) env st,λ_=>none⟩)
  (λ_ ih=>⟨λQ env st=>PR ih.1 ih.2 Q env st,λ_=>none⟩)
  (λl'=>⟨λQ env st=>Q .normal env st,λl=>bif Nat.beq l' l then some λQ env st=>Q .normal env st else none⟩)
  (λl=>⟨λQ env st=>Q (.goto l) env st,λ_=>none⟩)
  ⟨λQ env st=>Q .ret env st,λ_=>none⟩
  (λ_=>⟨λ_ _ _=>False,λ_=>none⟩) c
noncomputable def Pk (c:Code) (Q:AM->Env->St->Prop) (env:Env) (st:St):Prop:=(MI T C c).1 Q env st
def Ue (env:Env) (st:St) (x:ResultVar) (K:V->Prop):Prop:=
 match x with
 | .tmp t=>(env.get t).force λv=>D3 v.plain (K v)
 | .cell x t=>match env.get x with
   | .Cu id off=>match assoc env.boxes id with
     |some cs=>DD cs off (assoc T t) λv=>K v
     |none=>False
   | .ptr b off=>∃cs,st.box b=some cs/\DD cs off (assoc T t) λv=>K v
   |_=>False
def Gd (env:Env) (st:St) (l:List ResultVar):(List V->Prop)->Prop:=
 List.rec (motive:=λ_=>(List V->Prop)->Prop) (λK=>K []) (λx _ U K=>Ue T env st x λv=>U λvs=>K (v::vs)) l
theorem RY (env:Env) (st:St) (x:ResultVar) (r:List ResultVar) (K:List V->Prop):Gd T env st (x::r) K=Ue T env st x λv=>Gd T env st r λvs=>K (v::vs):=rfl
def bH (fn:Func) (R:AL->St->Prop):AM->Env->St->Prop
 | .normal,env,st| .ret,env,st=>Gd T env st fn.results.toList λvs=>
   match vs with
   |[v]=>R (.ret v) st
   |vs=>R (.ret (.Bh vs)) st
 | .Cz v,_,st=>R (.Cz v) st
 |_,_,_=>False
noncomputable def J9 (i:Nat) (l:List V):List (Nat×V):=
 List.rec (motive:=λ_=>Nat->List (Nat×V)) (λ_=>[]) (λv _ U i=>(i,v)::U (i+1)) l i
theorem Yh (i:Nat) (v:V) (r:List V):J9 i (v::r)=(i,v)::J9 (i+1) r:=rfl
def Tq (fn:Func) (gl:List Nat) (args:List V) (st:St) (R:AL->St->Prop):Prop:=
 match fn.body with
 |some c=>D3 (Nat.ble args.length fn.ntmps) (Pk T C c (bH T fn R) {tmps:=J9 0 args,boxes:=[],BI:=0,sz:=fn.ntmps,gl} st)
 |none=>False
def AL.wk:AL->AL
 | .ret v=>.ret v.wk
 | .Cz v=>.Cz v.wk
end
section
variable {T:List (Nat×Ty)} {C:FuncId->List V->St->(AL->St->Prop)->Prop} {env env':Env}
theorem CE {x:Operand} {t:TypeId} (h:env.eval x=env'.eval x):env.Bz T t x=env'.Bz T t x:=by
 unfold Env.Bz
 cases FL x
 .exact h
 .rfl
theorem Lc:∀{l:List Operand} {K K':List V->Prop},(∀x ∈ l,env.eval x=env'.eval x)->(∀vs,K vs->K' vs)->UM env l K->UM env' l K'
 |[],K,K',h,k,e=>k _ e
 |x::r,K,K',h,k,e=>by
  rw [Vi] at e |-
  rw [<-h x List.mem_cons_self]
  rw [V.AP] at e |-
  obtain ⟨U,e2⟩:=At.1 e
  exact Ay U (Lc (λy hy=>h y (List.mem_cons_of_mem _ hy)) (λvs=>k _) e2)
theorem QH:∀{l:List Operand} {ts:List TypeId} {K K':List V->Prop},(∀x ∈ l,env.eval x=env'.eval x)->(∀vs,K vs->K' vs)->Yu T env ts l K->Yu T env' ts l K'
 |[],ts,K,K',h,k,e=>k _ e
 |x::r,ts,K,K',h,k,e=>by
  rw [Sw] at e |-
  rw [<-CE (h x List.mem_cons_self)]
  rw [V.AP] at e |-
  obtain ⟨U,e2⟩:=At.1 e
  exact Ay U (QH (λy hy=>h y (List.mem_cons_of_mem _ hy)) (λvs=>k _) e2)
theorem Iz:∀{l:List (Nat×Operand)} {K K':List (Nat×V)->Prop},(∀x ∈ l.map (·.2),env.eval x=env'.eval x)->(∀vs,K vs->K' vs)->Hk env l K->Hk env' l K'
 |[],K,K',h,k,e=>k _ e
 |(i,x)::r,K,K',h,k,e=>by
  rw [MU] at e |-
  rw [<-h x GT]
  rw [V.AP] at e |-
  obtain ⟨U,e2⟩:=At.1 e
  exact Ay U (Iz (λy hy=>h y (List.mem_cons_of_mem _ hy)) (λvs=>k _) e2)
theorem D9 {b:Bool} {p q U q':Prop} (h:p->U) (k:q->q'):Bk b p q->Bk b U q':=λ⟨x,y⟩=>⟨λe=>h (x e),λe=>k (y e)⟩
theorem VM {b:Bool} {p q U q':Prop} (h:p->U) (k:q->q'):lit b p q->lit b U q':=by cases b;exact k;exact h
theorem IG {cs:List V} {off:Nat} {ty:Option Ty} {K K':V->Prop} (h:∀v,K v->K' v):DD cs off ty K->DD cs off ty K':=by
 unfold DD
 intro e
 obtain ⟨e0,e⟩:=At.1 e
 refine Ay e0 ?_
 revert e
 split
 .split
  .exact h _
  .intro e
   obtain ⟨U,e2⟩:=At.1 e
   exact Ay U (BD.2 (h _ (BD.1 e2)))
 .exact id
 .split
  .intro e;exact V.AP.2 (h _ (V.AP.1 e))
  .exact id
 .exact id
theorem Mh {U:List (Nat×Nat)}:∀{l:List (Nat×V)} {cs:List V} {K K':List V->Prop},(∀v,K v->K' v)->MW U cs l K->MW U cs l K'
 |[],cs,K,K',h,e=>BD.2 (h _ (BD.1 e))
 |(i,v)::r,cs,K,K',h,e=>by
  rw [QK] at e |-
  split
  .rename_i o s hx
   rw [hx] at e
   obtain ⟨e1,e⟩:=At.1 e
   obtain ⟨e2,e⟩:=At.1 e
   exact Ay e1 (Ay e2 (Mh h e))
  .rename_i hx
   rw [hx] at e
   exact e
theorem fN {op:BinOp} {x y:V} {K K':V->Prop} (h:∀v,K v->K' v):bin op x y K->bin op x y K':=by
 unfold bin
 split
 .intro e
  obtain ⟨e1,e⟩:=At.1 e
  refine Ay e1 ?_
  cases op<;>first
   |exact e.elim
   |exact D9 (h _) (h _) e
   |(obtain ⟨r,U,h2⟩:=e;exact ⟨r,U,h _ h2⟩)
   |(obtain ⟨h0,r,U,h2⟩:=e;exact ⟨h0,r,U,h _ h2⟩)
   |(obtain ⟨h0,U⟩:=e;exact ⟨h0,h _ U⟩)
 .cases op<;>intro e<;>first
   |exact e.elim
   |exact D9 (h _) (h _) e
   |(obtain ⟨h0,U⟩:=e;exact ⟨h0,h _ U⟩)
 .exact id
theorem V1 {op:BinOp} {ty:Option Ty} {v:V} {K K':V->Prop} (h:∀v,K v->K' v):Mp op ty v K->Mp op ty v K':=by
 unfold Mp
 split
 .split<;>first|exact h _|exact id
 .exact id
theorem Y6 {op:BinOp} {ty:Option Ty} {v:V} {K K':V->Prop} (h:∀v,K v->K' v):Ra op ty v K->Ra op ty v K':=by
 unfold Ra
 split
 .split<;>first|exact λk b hb=>h _ (k b hb)|exact id
 .exact id
theorem cB {op:BinOp} {ty:Option Ty} {x y:V} {K K':V->Prop} (h:∀v,K v->K' v):cA op ty x y K->cA op ty x y K':=by
 unfold cA
 split
 .unfold To
  split
  .intro e
   obtain ⟨U,e⟩:=At.1 e
   refine Ay U ?_
   split at e
   .rename_i b hb
    cases op<;>first|exact D9 (h _) (h _) e|exact e.elim
   .exact e.elim
  .exact id
 .unfold Pn
  split
  .split
   .exact D9 (D9 (h _) (h _)) (D9 (h _) (h _))
   .exact D9 (D9 (h _) (h _)) (D9 (h _) (h _))
   .exact id
  .exact id
 .exact fN h
theorem RQ {sz bytes:Nat} {es:List (List V)} {own:AF} {new:List (List V)} {st:St} {K K':V->St->Prop} (h:∀v s,K v s->K' v s):
 Ag sz bytes es own new st K->Ag sz bytes es own new st K':=by
 unfold Ag
 rintro ⟨h1,h2,e⟩
 obtain ⟨h3,e⟩:=At.1 e
 refine ⟨h1,h2,Ay h3 ?_⟩
 cases own with
 |any=>exact e
 |full=>exact ⟨λg=>h _ _ (e.1 g),λg=>(e.2 g).imp (λk b hb=>h _ _ (k b hb)) (λk b cap m hb hm=>h _ _ (k b cap m hb hm))⟩
 |tok b=>exact ⟨e.1,λU hb=>h _ _ (e.2 U hb)⟩
theorem Qb {sz bytes b n cap:Nat} {new:List (List V)} {st:St} {K K':V->St->Prop} (h:∀v s,K v s->K' v s):
 ES sz bytes b n cap new st K->ES sz bytes b n cap new st K':=by
 unfold ES
 rintro ⟨h1,h2,e⟩
 obtain ⟨h3,h4,cs,h5,h6,e⟩:=At.1 e
 exact ⟨h1,h2,Ay h3 ⟨h4,cs,h5,h6,λb' U m hb hm=>h _ _ (e b' U m hb hm)⟩⟩
theorem HQ (hC:∀f args st (R R':AL->St->Prop),(∀r s,R r s->R' r s)->C f args st R->C f args st R') {o:Oper} {st st':St} {K K':V->Env->St->Prop} {Q Q':AM->Env->St->Prop}
 (hq:Dy o.op=true) (hs:st'=st\/(G6 o.op=true/\∀b,st.box b=none)) (he:∀x ∈ o.op.operands.toList,env.eval x=env'.eval x) (hb:∀id cs,assoc env.boxes id=some cs->assoc env'.boxes id=some cs)
 (hK:∀v s s',((st'=st/\s'=s)\/(s=st/\s'=st'))->K v env s->K' v env' s') (hQ:∀v s,Q (.Cz v) env s->Q' (.Cz v) env' s):Jg T C o env st K Q->Jg T C o env' st' K' Q':=by
 have U:∀v,K v env st->K' v env' st':=λv=>hK v st st' (.inr ⟨rfl,rfl⟩)
 cases ho:o.op<;>simp only [Jg,ho,Dy,G6,Op.operands] at* <;>try exact id
 case move x=>
  rw [<-CE (he x GT)]
  intro e;exact V.AP.2 (U _ (V.AP.1 e))
 case assign x=>
  rw [<-CE (he x GT)]
  intro e;exact V.AP.2 (U _ (V.AP.1 e))
 case pick c a b=>
  rw [<-he c GT,<-CE (he a GT),<-CE (he b GT)]
  split
  .exact VM (λe=>V.AP.2 (U _ (V.AP.1 e))) (λe=>V.AP.2 (U _ (V.AP.1 e)))
  .exact id
 case alloc t=>cases hq
 case box t x=>cases hq
 case store t x y=>cases hq
 case range t x=>cases hq
 case next x b=>cases hq
 case makeSlice t l c=>cases hq
 case convert t u x=>
  rw [<-he x GT]
  split
  .rintro ⟨r,h1,h2⟩;exact ⟨r,h1,U _ h2⟩
  .exact id
 case load t x=>
  rw [<-he x GT]
  split
  .split
   .rename_i cs hcs
    rw [hb _ _ hcs]
    exact IG λv=>U v
   .exact False.elim
  .rintro ⟨cs,h1,h2⟩
   rcases hs with rfl|⟨_,h0⟩
   .exact ⟨cs,h1,IG (λv=>U v) h2⟩
   .rw [h0] at h1;cases h1
  .exact IG λv=>U v
  .exact id
 case nilCheck x=>
  rw [<-he x GT]
  split<;>first|exact U _|exact id
 case fieldAddr t x f=>
  rw [<-he x GT]
  split
  .split
   .intro e;obtain ⟨e1,e⟩:=At.1 e;exact Ay e1 (U _ e)
   .exact id
  .split
   .intro e;obtain ⟨e1,e⟩:=At.1 e;exact Ay e1 (U _ e)
   .exact id
  .split
   .intro e;obtain ⟨e1,e⟩:=At.1 e;exact Ay e1 (U _ e)
   .exact id
  .exact id
 case binOp op t x y u=>
  rw [<-he x GT,<-he y GT]
  split
  .exact V1 λv=>U v
  split
  .exact Y6 λv=>U v
  .exact cB λv=>U v
 case makeInterface t x=>
  rw [<-CE (he x GT)]
  split
  .exact id
  .intro e
   obtain ⟨e1,e⟩:=At.1 (V.AP.1 e)
   exact V.AP.2 (Ay e1 (U _ e))
  .exact id
 case typeAssert x t' t ok=>
  rw [<-he x GT]
  split
  .exact id
  .split
   .rename_i u v _
    cases Nat.beq u t with
    |true=>
     intro e
     obtain ⟨e1,e⟩:=At.1 e
     refine Ay e1 ?_
     cases ok with
     |true=>exact U _ e
     |false=>
      have e:v.force λv=>K v env st:=e
      show v.force λv=>K' v env' st'
      exact V.AP.2 (U _ (V.AP.1 e))
    |false=>intro e;obtain ⟨e1,e⟩:=At.1 e;exact Ay e1 (U _ e)
   .intro e;obtain ⟨e1,e⟩:=At.1 e;exact Ay e1 (U _ e)
   .exact id
  .exact id
 case panic x=>
  rw [<-he x GT]
  split
  .rcases hs with rfl|⟨h0,_⟩
   .exact hQ _ _
   .cases h0
  .exact id
 case field t x f=>
  rw [<-he x GT]
  split
  .split
   .split
    .intro e;exact V.AP.2 (U _ (V.AP.1 e))
    .exact id
   .exact id
  .exact id
 case extract x i=>
  rw [<-he x GT]
  split
  .split
   .intro e;exact V.AP.2 (U _ (V.AP.1 e))
   .exact id
  .exact id
 case unOp op t x=>
  rw [<-he x GT]
  split
  .exact VM (U _) (U _)
  .rintro ⟨r,h1,h2⟩;exact ⟨r,h1,U _ h2⟩
  .exact id
 case indexAddr t x i=>
  rw [<-he x GT,<-he i GT]
  split
  .intro e;obtain ⟨e1,h0,x,h1,h2⟩:=At.1 e;exact Ay e1 ⟨h0,x,h1,U _ h2⟩
  .intro e;obtain ⟨e1,h0,h1⟩:=At.1 e;exact Ay e1 ⟨h0,λk hk'=>U _ (h1 k hk')⟩
  .exact id
 case index t x i=>
  rw [<-he x GT,<-he i GT]
  split
  .rintro ⟨h0,x,h1,h2⟩;exact ⟨h0,x,h1,U _ h2⟩
  .exact id
 case build t ps=>
  split
  .exact Iz (λx hx=>he x (by simpa using hx)) λvs=>Mh λv=>U _
  .exact Iz (λx hx=>he x (by simpa using hx)) λvs=>Mh λv=>U _
  .exact id
 case buildSlice t n ps=>
  split
  .intro e
   obtain ⟨e1,e⟩:=At.1 e
   obtain ⟨e2,e⟩:=At.1 e
   obtain ⟨e3,e⟩:=At.1 e
   refine Ay e1 (Ay e2 (Ay e3 (Lc (λx hx=>he x (by simpa using hx)) (λvs e=>?_) e)))
   obtain ⟨e4,e⟩:=At.1 e
   exact Ay e4 (Ie.2 (U _ (Ie.1 e)))
  .exact id
 case makeFunc fn first cap=>
  cases fn with
  |func f=>
   intro e
   refine Lc (λx hx=>he x (by simp only [Array.toList_append,List.mem_append];exact .inl hx)) (λa e=>?_) e
   exact Lc (λx hx=>he x (by simp only [Array.toList_append,List.mem_append];exact .inr hx)) (λc=>U _) e
  |_=>exact id
 case slice t x lo hi mx=>
  cases mx with
  |some mx=>
   cases hi with
   |none=>exact id
   |some hi=>
    have h0:env.eval x=env'.eval x:=he x GT
    have h1:lo.map env.eval=lo.map env'.eval:=by
     cases lo with
     |none=>rfl
     |some y=>exact congrArg some (he y GT)
    have h2:env.eval hi=env'.eval hi:=he hi GT
    have h3:env.eval mx=env'.eval mx:=he mx GT
    simp only [<-h0,<-h1,<-h2,<-h3]
    split
    .split
     .intro e;obtain ⟨e1,e2,e3⟩:=At.1 e;exact Ay e1 ⟨e2,λes h=>U _ (e3 es h)⟩
     .exact id
    .exact id
  |none=>
   have h0:env.eval x=env'.eval x:=he x GT
   have h1:lo.map env.eval=lo.map env'.eval:=by
    cases lo with
    |none=>rfl
    |some y=>exact congrArg some (he y GT)
   have h2:hi.map env.eval=hi.map env'.eval:=by
    cases hi with
    |none=>rfl
    |some y=>exact congrArg some (he y GT)
   simp only [<-h0,<-h1,<-h2]
   split
   .split
    .intro e;obtain ⟨e1,e2,e3⟩:=At.1 e;exact Ay e1 ⟨e2,λes h=>U _ (e3 es h)⟩
    .exact id
   .split
    .rintro ⟨e2,e3⟩;exact ⟨e2,λes h=>U _ (e3 es h)⟩
    .exact id
   .split
    .intro e;obtain ⟨e1,e2,e3⟩:=At.1 e;exact Ay e1 ⟨e2,λes h=>U _ (e3 es h)⟩
    .exact id
   .exact id
 case call c=>
  have ha:∀x ∈ c.args.toList,env.eval x=env'.eval x:=λx hx=>he x (by
   simp only [Call.operands]
   cases c.callee<;>simp_all)
  have hm:c.args.toList.map env.eval=c.args.toList.map env'.eval:=List.map_congr_left ha
  cases hc:c.callee with
  |invoke r m=>simp only [hc];exact id
  |value f=>
   have hf:env.eval f=env'.eval f:=he f (by simp [Call.operands,hc])
   simp only [hc,<-hf]
   rcases hs with rfl|⟨h0,_⟩
   .split
    .refine QH ha λvs e=>BD.2 (hC _ _ _ _ _ ?_ (BD.1 e))
     rintro (v|v) s e
     .exact V.Qf.2 (hK _ _ _ (.inl ⟨rfl,rfl⟩) (V.Qf.1 e))
     .exact hQ _ _ e
    .exact id
   .obtain ⟨callee,az,ts⟩:=c
    cases hc
    cases h0
  |builtin b=>
   cases b<;>simp only [hc]<;>try exact id
   case len=>
    rw [<-hm]
    split
    .intro e m h1 h2;exact U _ (e m h1 h2)
    .intro e h;exact U _ (e h)
    .intro e h;exact U _ (e h)
    .exact id
   case min=>
    rw [<-hm]
    split
    .intro e;obtain ⟨e1,r,e2,e3⟩:=At.1 e;exact Ay e1 ⟨r,e2,U _ e3⟩
    .exact id
   case max=>
    rw [<-hm]
    split
    .intro e;obtain ⟨e1,r,e2,e3⟩:=At.1 e;exact Ay e1 ⟨r,e2,U _ e3⟩
    .exact id
   case append=>
    obtain ⟨callee,az,ts⟩:=c
    cases hc
    rcases hs with rfl|⟨h0,_⟩
    rotate_left
    .cases h0
    split
    .rename_i x y t u hx ht
     rw [<-CE (T:=T) (ha x (by rw [hx];simp)),<-CE (T:=T) (ha y (by rw [hx];simp))]
     split
     .intro e;obtain ⟨e1,e⟩:=At.1 e;exact Ay e1 (RQ (λv s=>hK v s s (.inl ⟨rfl,rfl⟩)) e)
     .intro e;obtain ⟨e1,e⟩:=At.1 e;exact Ay e1 (Qb (λv s=>hK v s s (.inl ⟨rfl,rfl⟩)) e)
     .exact id
    .exact id
end
structure dh (c:Nat->Nat->Option Value) (s:Nat->Option Nat):Prop where
 first:∀i,i<256->c 0 i=some (.int .u8 (Lib.firstT i))
 accept:∀i,i<16->c 1 (2*i)=some (.int .u8 (Lib.accLo i))/\c 1 (2*i+1)=some (.int .u8 (Lib.accHi i))
 maxLen:∃m,c 2 0=some (.int .i64 m)
 space:∀i,i<256->c 3 i=some (.int .u8 (Lib.asciiSpaceTab.getD i 0))
 kR:s 3=some 256
theorem TO {c U:Nat->Nat->Option Value} {s s':Nat->Option Nat} (h:∀b o v,c b o=some v->U b o=some v) (k:∀b n,s b=some n->s' b=some n) (g:dh c s):dh U s':=
 ⟨λi hi=>h _ _ _ (g.first i hi),λi hi=>⟨h _ _ _ (g.accept i hi).1,h _ _ _ (g.accept i hi).2⟩,g.maxLen.imp λ_ e=>h _ _ _ e,λi hi=>h _ _ _ (g.space i hi),k _ _ g.kR⟩
structure Mem where
 cell:Nat->Nat->Option Value
 shape:Nat->Option Nat
def Mem.le (I J:Mem):Prop:=(∀b o v,I.cell b o=some v->J.cell b o=some v)/\∀b n,I.shape b=some n->J.shape b=some n
theorem Mem.le_refl (I:Mem):I.le I:=⟨λ_ _ _ h=>h,λ_ _ h=>h⟩
theorem Mem.le_trans {I J K:Mem} (h:I.le J) (k:J.le K):I.le K:=⟨λb o v x=>k.1 _ _ _ (h.1 _ _ _ x),λb n x=>k.2 _ _ (h.2 _ _ x)⟩
def UO (I:Mem) (sz len cap:Nat) (a:Option Addr):AF->Prop
 | .any=>True
 | .full=>cap=len
 | .tok b=>a=some ⟨b,0,none⟩/\I.shape b=some (cap*sz)
mutual
def AE (I:Mem):V->Value->Prop
 | .Cj,_=>True
 | .bool b,c=>c=.bool b
 | .int k n,c=>c=.int k n
 | .str s,c=>c=.string ⟨s.toArray⟩/\s.length<Fe
 | .agg cs,c=>∃vs:List Value,c=.agg vs.toArray/\Aj I cs vs
 | .Bh cs,c=>∃vs:List Value,c=.tuple vs.toArray/\Aj I cs vs
 | .slice sz es own,c=>∃a cap,c=.slice a es.length cap/\es.length<=cap/\es.length<Fe/\0<sz/\UO I sz es.length cap a own/\
    (match a with|none=>cap=0|some U=>(cap=0\/U.spot=none)/\Co I sz U.block U.off es)
 | .ptr b off,c=>c=.pointer (some ⟨b,off,none⟩)
 | .Cu _ _,_=>False
 | .Iy e off,c=>∃b o,c=.pointer (some ⟨b,o+off,none⟩)/\C6 I b o e
 | .Gl,c=>c=.pointer none
 | .func f a cap,c=>∃az cs:List Value,c=.func (.func f) az.toArray cs.toArray/\Aj I a az/\Aj I cap cs
 | .AK,c=>c=.nilFunc
 | .iface t v,c=>∃c',c=.iface t c'/\AE I v c'
 | .GH,c=>c=.nilIface
 | .O9 _ _,_=>False
 | .DM sz b n cap,c=>c=.slice (some ⟨b,0,none⟩) n cap/\n<=cap/\n<Fe/\0<sz
 | .ff l,c=>c=.func (.yield l) #[] #[]
def Aj (I:Mem):List V->List Value->Prop
 |[],vs=>vs=[]
 |v::r,vs=>∃c s,vs=c::s/\AE I v c/\Aj I r s
def C6 (I:Mem) (b o:Nat):List V->Prop
 |[]=>True
 |v::r=>(∃c,I.cell b o=some c/\AE I v c)/\C6 I b (o+1) r
def Co (I:Mem) (sz b o:Nat):List (List V)->Prop
 |[]=>True
 |e::r=>(e.length=sz/\C6 I b o e)/\Co I sz b (o+sz) r
end
theorem UO.mono {I J:Mem} (h:I.le J) {sz len cap:Nat} {a:Option Addr} {own:AF} (k:UO I sz len cap a own):UO J sz len cap a own:=by
 cases own with
 |any=>trivial
 |full=>exact k
 |tok b=>exact ⟨k.1,h.2 _ _ k.2⟩
mutual
theorem AE.mono {I J:Mem} (h:I.le J):∀(v:V) (c:Value),AE I v c->AE J v c
 | .Cj,_,_=>by simp only [AE]
 | .bool b,c,k=>by simpa only [AE] using k
 | .int _ n,c,k=>by simpa only [AE] using k
 | .str s,c,k=>by simpa only [AE] using k
 | .agg cs,c,k=>by
   simp only [AE] at k |-
   obtain ⟨vs,e,k⟩:=k
   exact ⟨vs,e,Aj.mono h cs vs k⟩
 | .Bh cs,c,k=>by
   simp only [AE] at k |-
   obtain ⟨vs,e,k⟩:=k
   exact ⟨vs,e,Aj.mono h cs vs k⟩
 | .slice sz es own,c,k=>by
   simp only [AE] at k |-
   obtain ⟨a,cap,e,h1,h2,h3,h4,U⟩:=k
   refine ⟨a,cap,e,h1,h2,h3,h4.mono h,?_⟩
   cases a with
   |none=>exact U
   |some ad=>exact ⟨U.1,Co.mono h sz ad.block es ad.off U.2⟩
 | .ptr _ _,c,k=>by simpa only [AE] using k
 | .Cu _ _,c,k=>by simp only [AE] at k
 | .Iy e off,c,k=>by
   simp only [AE] at k |-
   obtain ⟨b,o,e1,k⟩:=k
   exact ⟨b,o,e1,C6.mono h b e o k⟩
 | .Gl,c,k=>by simpa only [AE] using k
 | .func f a cap,c,k=>by
   simp only [AE] at k |-
   obtain ⟨az,cs,e,k1,k2⟩:=k
   exact ⟨az,cs,e,Aj.mono h a az k1,Aj.mono h cap cs k2⟩
 | .AK,c,k=>by simpa only [AE] using k
 | .iface t v,c,k=>by
   simp only [AE] at k |-
   obtain ⟨c',e,k⟩:=k
   exact ⟨c',e,AE.mono h v c' k⟩
 | .GH,c,k=>by simpa only [AE] using k
 | .O9 _ _,c,k=>by simp only [AE] at k
 | .DM _ _ _ _,c,k=>by simpa only [AE] using k
 | .ff _,c,k=>by simpa only [AE] using k
theorem Aj.mono {I J:Mem} (h:I.le J):∀(l:List V) (vs:List Value),Aj I l vs->Aj J l vs
 |[],vs,k=>by simpa only [Aj] using k
 |v::r,vs,k=>by
  simp only [Aj] at k |-
  obtain ⟨c,s,e,U,k2⟩:=k
  exact ⟨c,s,e,AE.mono h v c U,Aj.mono h r s k2⟩
theorem C6.mono {I J:Mem} (h:I.le J) (b:Nat):∀(l:List V) (o:Nat),C6 I b o l->C6 J b o l
 |[],o,k=>by simp only [C6]
 |v::r,o,k=>by
  simp only [C6] at k |-
  obtain ⟨⟨c,U,k2⟩,k3⟩:=k
  exact ⟨⟨c,h.1 _ _ _ U,AE.mono h v c k2⟩,C6.mono h b r (o+1) k3⟩
theorem Co.mono {I J:Mem} (h:I.le J) (sz b:Nat):∀(l:List (List V)) (o:Nat),Co I sz b o l->Co J sz b o l
 |[],o,k=>by simp only [Co]
 |v::r,o,k=>by
  simp only [Co] at k |-
  exact ⟨⟨k.1.1,C6.mono h b v o k.1.2⟩,Co.mono h sz b r (o+sz) k.2⟩
end
theorem AE.Ko {I:Mem}:∀{v:V} {c:Value},AE I v c->AE I v.Ko c
 | .slice sz es own,c,k=>by
   simp only [V.Ko,AE] at k |-
   obtain ⟨a,cap,e,U,h2,h3,h4,h5⟩:=k
   exact ⟨a,cap,e,U,h2,h3,trivial,h5⟩
 | .Cj,_,k| .bool _,_,k| .int _ _,_,k| .str _,_,k| .agg _,_,k| .Bh _,_,k| .ptr _ _,_,k| .Cu _ _,_,k| .Iy _ _,_,k| .Gl,_,k
 | .func _ _ _,_,k| .AK,_,k| .iface _ _,_,k| .GH,_,k| .O9 _ _,_,k| .DM _ _ _ _,_,k| .ff _,_,k=>k
theorem Aj.map {I:Mem} {f:V->V} (U:∀v c,AE I v c->AE I (f v) c):∀{l:List V} {vs:List Value},Aj I l vs->Aj I (l.map f) vs
 |[],vs,k=>by simpa only [Aj,List.map_nil] using k
 |v::r,vs,k=>by
  simp only [Aj,List.map_cons] at k |-
  obtain ⟨c,s,e,k1,k2⟩:=k
  exact ⟨c,s,e,U v c k1,Aj.map U k2⟩
theorem C6.map {I:Mem} {f:V->V} (U:∀v c,AE I v c->AE I (f v) c) (b:Nat):∀{l:List V} {o:Nat},C6 I b o l->C6 I b o (l.map f)
 |[],o,k=>by simp only [C6,List.map_nil]
 |v::r,o,k=>by
  simp only [C6,List.map_cons] at k |-
  obtain ⟨⟨c,k1,k2⟩,k3⟩:=k
  exact ⟨⟨c,k1,U v c k2⟩,C6.map U b k3⟩
theorem AE.sy {I:Mem} {v:V} {c:Value} (k:AE I v c):AE I v.sy c:=by
 cases v with
 |agg cs=>
  simp only [V.sy,AE] at k |-
  obtain ⟨vs,e,k⟩:=k
  exact ⟨vs,e,Aj.map (λ_ _=>AE.Ko) k⟩
 |slice sz es own=>exact AE.Ko k
 |_=>exact k
theorem AE.wk {I:Mem} {v:V} {c:Value} (k:AE I v c):AE I v.wk c:=by
 cases v with
 |agg cs=>exact AE.sy k
 |Bh cs=>
  simp only [V.wk,AE] at k |-
  obtain ⟨vs,e,k⟩:=k
  exact ⟨vs,e,Aj.map (λ_ _=>AE.sy) k⟩
 |slice sz es own=>exact AE.Ko k
 |_=>exact k
theorem Aj.length {I:Mem}:∀{l:List V} {vs:List Value},Aj I l vs->l.length=vs.length
 |[],vs,k=>by simp only [Aj] at k;subst k;rfl
 |v::r,vs,k=>by
  simp only [Aj] at k
  obtain ⟨c,s,e,k1,U⟩:=k
  subst e
  simp [Aj.length U]
theorem Aj.get {I:Mem}:∀{l:List V} {vs:List Value} {i:Nat} {v:V},Aj I l vs->l[i]? =some v->∃c,vs[i]? =some c/\AE I v c
 |[],vs,i,v,k,h=>by simp at h
 |u::r,vs,i,v,k,h=>by
  simp only [Aj] at k
  obtain ⟨c,s,e,k1,k2⟩:=k
  subst e
  cases i with
  |zero=>simp at h;subst h;exact ⟨c,GT,k1⟩
  |succ i=>simp at h;obtain ⟨U,h1,h2⟩:=Aj.get k2 h;exact ⟨U,by simpa using h1,h2⟩
theorem Aj.append {I:Mem}:∀{l r:List V} {vs us:List Value},Aj I l vs->Aj I r us->Aj I (l++r) (vs++us)
 |[],r,vs,us,k,h=>by simp only [Aj] at k;subst k;simpa using h
 |v::l,r,vs,us,k,h=>by
  simp only [Aj] at k
  obtain ⟨c,s,e,U,k2⟩:=k
  subst e
  simp only [List.cons_append,Aj]
  exact ⟨c,s++us,rfl,U,Aj.append k2 h⟩
theorem Aj.take {I:Mem}:∀{l:List V} {vs:List Value} (n:Nat),Aj I l vs->Aj I (l.take n) (vs.take n)
 |[],vs,n,k=>by simp only [Aj] at k;subst k;simp [Aj]
 |v::l,vs,0,k=>by simp [Aj]
 |v::l,vs,n+1,k=>by
  simp only [Aj] at k
  obtain ⟨c,s,e,U,k2⟩:=k
  subst e
  simp only [List.take_succ_cons,Aj]
  exact ⟨c,_,rfl,U,Aj.take n k2⟩
theorem Aj.drop {I:Mem}:∀{l:List V} {vs:List Value} (n:Nat),Aj I l vs->Aj I (l.drop n) (vs.drop n)
 |[],vs,n,k=>by simp only [Aj] at k;subst k;simp [Aj]
 |v::l,vs,0,k=>by simpa using k
 |v::l,vs,n+1,k=>by
  simp only [Aj] at k
  obtain ⟨c,s,e,k1,U⟩:=k
  subst e
  simpa using Aj.drop n U
theorem C6.get {I:Mem} {b:Nat}:∀{l:List V} {o i:Nat} {v:V},C6 I b o l->l[i]? =some v->∃c,I.cell b (o+i)=some c/\AE I v c
 |[],o,i,v,k,h=>by simp at h
 |u::r,o,i,v,k,h=>by
  simp only [C6] at k
  cases i with
  |zero=>simp at h;subst h;exact k.1
  |succ i=>
   simp at h
   obtain ⟨c,U,h2⟩:=C6.get k.2 h
   exact ⟨c,by rw [show o+(i+1)=o+1+i by omega];exact U,h2⟩
theorem C6.drop {I:Mem} {b:Nat}:∀{l:List V} {o:Nat} (n:Nat),C6 I b o l->C6 I b (o+n) (l.drop n)
 |[],o,n,k=>by simp [C6]
 |v::l,o,0,k=>by simpa using k
 |v::l,o,n+1,k=>by
  simp only [C6] at k
  rw [show o+(n+1)=o+1+n by omega]
  simpa using C6.drop n k.2
theorem C6.take {I:Mem} {b:Nat}:∀{l:List V} {o:Nat} (n:Nat),C6 I b o l->C6 I b o (l.take n)
 |[],o,n,k=>by simp [C6]
 |v::l,o,0,k=>by simp [C6]
 |v::l,o,n+1,k=>by
  simp only [C6,List.take_succ_cons] at k |-
  exact ⟨k.1,C6.take n k.2⟩
theorem Co.get {I:Mem} {sz b:Nat}:∀{l:List (List V)} {o i:Nat} {e:List V},Co I sz b o l->l[i]? =some e->e.length=sz/\C6 I b (o+i*sz) e
 |[],o,i,v,k,h=>by simp at h
 |u::r,o,i,v,k,h=>by
  simp only [Co] at k
  cases i with
  |zero=>simp at h;subst h;simpa using k.1
  |succ i=>
   simp at h
   have:=Co.get k.2 h
   rw [show o+(i+1)*sz=o+sz+i*sz by rw [Nat.add_mul];omega]
   exact this
theorem Co.drop {I:Mem} {sz b:Nat}:∀{l:List (List V)} {o:Nat} (n:Nat),Co I sz b o l->Co I sz b (o+n*sz) (l.drop n)
 |[],o,n,k=>by simp [Co]
 |v::l,o,0,k=>by simpa using k
 |v::l,o,n+1,k=>by
  simp only [Co] at k
  rw [show o+(n+1)*sz=o+sz+n*sz by rw [Nat.add_mul];omega]
  simpa using Co.drop n k.2
theorem Co.take {I:Mem} {sz b:Nat}:∀{l:List (List V)} {o:Nat} (n:Nat),Co I sz b o l->Co I sz b o (l.take n)
 |[],o,n,k=>by simp [Co]
 |v::l,o,0,k=>by simp [Co]
 |v::l,o,n+1,k=>by
  simp only [Co,List.take_succ_cons] at k |-
  exact ⟨k.1,Co.take n k.2⟩
theorem Co.append {I:Mem} {sz b:Nat}:∀{l r:List (List V)} {o:Nat},Co I sz b o l->Co I sz b (o+l.length*sz) r->Co I sz b o (l++r)
 |[],r,o,k,h=>by simpa using h
 |v::l,r,o,k,h=>by
  simp only [Co,List.cons_append] at k |-
  refine ⟨k.1,Co.append k.2 ?_⟩
  rw [show o+sz+l.length*sz=o+(l.length+1)*sz by rw [Nat.add_mul];omega]
  exact h
def A8 (I:Mem) (β:Nat->Option Nat):V->Value->Prop
 | .Cu id off,c=>∃b,β id=some b/\c=.pointer (some ⟨b,off,none⟩)
 |v,c=>AE I v c
theorem A8.of {I:Mem} {β:Nat->Option Nat} {v:V} {c:Value} (h:AE I v c):A8 I β v c:=by
 cases v<;>first|exact h|exact (by simp only [AE] at h)
theorem A8.mono {I J:Mem} (h:I.le J) {β:Nat->Option Nat} {v:V} {c:Value} (k:A8 I β v c):A8 J β v c:=by
 cases v<;>first|exact k|exact AE.mono h _ _ k
structure CH (I:Mem) (st:St) (w:World):Prop where
 cell:∀b o v,I.cell b o=some v->w.cell? ⟨b,o,none⟩=some v
 shape:∀b n,I.shape b=some n->∃c ty,w.heap[b]? =some (.cells c ty (0,0))/\c.size=n
 box:∀b cs,st.box b=some cs->∃(vs:List Value) (ty:TypeId),w.heap[b]? =some (.cells vs.toArray ty (0,0))/\Aj I cs vs
 JB:∀b,st.box b≠none->(∀o,I.cell b o=none)/\st.hw b=none/\I.shape b=none
 hw:∀b h,st.hw b=some h->b<w.heap.size/\∀o,h<=o->I.cell b o=none
 UF:dh I.cell I.shape
structure Fr (I0:Mem) (st0:St) (w0:World) (I:Mem) (st:St) (w:World):Prop where
 os:w.os=w0.os
 tape:w.tape=w0.tape
 output:w.output=w0.output
 size:w0.heap.size<=w.heap.size
 Mq:∀b,b<w0.heap.size->st0.box b=none->st0.hw b=none->w.heap[b]? =w0.heap[b]?
 le:I0.le I
 new:∀b o,I0.cell b o=none->I.cell b o≠none->w0.heap.size<=b\/st0.box b≠none\/st0.hw b≠none
 Mo:∀b,I0.shape b=none->I.shape b≠none->w0.heap.size<=b\/st0.box b≠none\/st0.hw b≠none
 Mb:∀b,(st.box b≠none\/st.hw b≠none)->w0.heap.size<=b\/st0.box b≠none\/st0.hw b≠none
theorem Fr.refl {I:Mem} {st:St} {w:World}:Fr I st w I st w:=
 ⟨rfl,rfl,rfl,Nat.le_refl _,λ_ _ _ _=>rfl,Mem.le_refl _,λ_ _ h k=>absurd h k,λ_ h k=>absurd h k,λ_ h=>.inr h⟩
theorem Fr.trans {I0 I1 I2:Mem} {s0 s1 s2:St} {w0 w1 w2:World} (h:Fr I0 s0 w0 I1 s1 w1) (k:Fr I1 s1 w1 I2 s2 w2):Fr I0 s0 w0 I2 s2 w2:=by
 refine ⟨k.os.trans h.os,k.tape.trans h.tape,k.output.trans h.output,Nat.le_trans h.size k.size,?_,Mem.le_trans h.le k.le,?_,?_,?_⟩
 .intro b hb h1 h2
  have e1:s1.box b=none:=by
   cases hh:s1.box b with
   |none=>rfl
   |some c=>rcases h.Mb b (.inl (by rw [hh];simp)) with h|h|h<;>first|omega|contradiction
  have e2:s1.hw b=none:=by
   cases hh:s1.hw b with
   |none=>rfl
   |some c=>rcases h.Mb b (.inr (by rw [hh];simp)) with h|h|h<;>first|omega|contradiction
  rw [k.Mq b (Nat.lt_of_lt_of_le hb h.size) e1 e2,h.Mq b hb h1 h2]
 .intro b o h1 h2
  cases hh:I1.cell b o with
  |some v=>exact h.new b o h1 (by rw [hh];simp)
  |none=>
   rcases k.new b o hh h2 with U|U|U
   .exact .inl (Nat.le_trans h.size U)
   .exact h.Mb b (.inl U)
   .exact h.Mb b (.inr U)
 .intro b h1 h2
  cases hh:I1.shape b with
  |some v=>exact h.Mo b h1 (by rw [hh];simp)
  |none=>
   rcases k.Mo b hh h2 with U|U|U
   .exact .inl (Nat.le_trans h.size U)
   .exact h.Mb b (.inl U)
   .exact h.Mb b (.inr U)
 .intro b hb
  rcases k.Mb b hb with U|U|U
  .exact .inl (Nat.le_trans h.size U)
  .exact h.Mb b (.inl U)
  .exact h.Mb b (.inr U)
theorem LP {cs:List V} {off:Nat} {ty:Option Ty} {K:V->Prop} (h:DD cs off ty K):O8 cs=true:=(At.1 h).1
theorem UE {cs new:List V} {off:Nat} {K:List V->Prop} (h:E7 cs off new K):O8 cs=true:=(At.1 h).1
def Laid (I:Mem) (o:Option Obj) (cs:List V):Prop:=
 (∃(vs:List Value) (ty:TypeId),o=some (.cells vs.toArray ty (0,0))/\Aj I cs vs)\/∃(s:List UInt8) (pos:Nat),cs=[.O9 s pos]/\s.length<Fe/\o=some (.stringIter ⟨s.toArray⟩ pos)
theorem Laid.mono {I J:Mem} {o:Option Obj} {cs:List V} (h:Laid I o cs) (hl:I.le J):Laid J o cs:=by
 rcases h with ⟨vs,ty,U,h2⟩|h
 .exact .inl ⟨vs,ty,U,Aj.mono hl _ _ h2⟩
 .exact .inr h
theorem Laid.cells {I:Mem} {o:Option Obj} {cs:List V} (h:Laid I o cs) (hn:O8 cs=true):∃(vs:List Value) (ty:TypeId),o=some (.cells vs.toArray ty (0,0))/\Aj I cs vs:=by
 rcases h with h|⟨s,pos,rfl,_⟩
 .exact h
 .cases hn
structure Is (D:List Deferred) (B:Nat) (I:Mem) (β:Nat->Option Nat) (env:Env) (st:St) (a:Act) (w:World):Prop where
 size:a.tmps.size=env.sz
 tmps:∀t v,assoc env.tmps t=some v->A8 I β v (a.tmps.getD t undef)
 box:∀id cs,assoc env.boxes id=some cs->∃b:Nat,β id=some b/\Laid I w.heap[b]? cs
 BI:∀id b,β id=some b->id<env.BI
 inj:∀i j b,β i=some b->β j=some b->i=j
 sep:∀id b,β id=some b->B<=b/\b<w.heap.size/\(∀o,I.cell b o=none)/\I.shape b=none/\st.box b=none/\st.hw b=none
 defers:a.defers=D
structure Rel (D:List Deferred) (I0:Mem) (st0:St) (w0:World) (I:Mem) (β:Nat->Option Nat) (env:Env) (st:St) (a:Act) (w:World):Prop where
 fr:Fr I0 st0 w0 I st w
 s:CH I st w
 f:Is D w0.heap.size I β env st a w
section
variable {D:List Deferred} {I0 I:Mem} {st0 st:St} {w0 w w':World} {β:Nat->Option Nat} {env:Env} {a:Act}
structure GZ (w w':World):Prop where
 os:w'.os=w.os
 tape:w'.tape=w.tape
 output:w'.output=w.output
 size:w.heap.size<=w'.heap.size
 Mq:∀b,b<w.heap.size->w'.heap[b]? =w.heap[b]?
theorem GZ.refl (w:World):GZ w w:=⟨rfl,rfl,rfl,Nat.le_refl _,λ_ _=>rfl⟩
theorem GZ.drew (w:World):GZ w w.drew:=⟨rfl,rfl,rfl,Nat.le_refl _,λ_ _=>rfl⟩
theorem GZ.alloc (w:World) (o:Obj):GZ w (w.alloc o):=
 ⟨rfl,rfl,rfl,GT,λb hb=>by simp only [World.alloc,Array.getElem?_push];rw [if_neg AC]⟩
theorem GZ.trans {x y z:World} (h:GZ x y) (k:GZ y z):GZ x z:=
 ⟨k.os.trans h.os,k.tape.trans h.tape,k.output.trans h.output,Nat.le_trans h.size k.size,λb hb=>(k.Mq b (Nat.lt_of_lt_of_le hb h.size)).trans (h.Mq b hb)⟩
theorem FO {w:World} {b:Nat} {o:Obj} (h:w.heap[b]? =some o):b<w.heap.size:=by
 rcases Nat.lt_or_ge b w.heap.size with U|U
 .exact U
 .rw [Array.getElem?_eq_none U] at h;cases h
theorem Mn {w:World} {b o:Nat} {v:Value} (h:w.cell? ⟨b,o,none⟩=some v):b<w.heap.size:=World.block_lt_of_cell? _ _ h
theorem Ia {w w':World} {b o:Nat} (h:w'.heap[b]? =w.heap[b]?):w'.cell? ⟨b,o,none⟩=w.cell? ⟨b,o,none⟩:=by
 simp only [World.cell?,h]
theorem CH.Kk (h:CH I st w) (g:GZ w w'):CH I st w' where
 cell b o v k:=by have:=h.cell b o v k;rw [Ia (g.Mq b (Mn this))];exact this
 shape b n k:=by obtain ⟨c,ty,U,h2⟩:=h.shape b n k;exact ⟨c,ty,by rw [g.Mq b (FO U)];exact U,h2⟩
 box b cs k:=by obtain ⟨vs,ty,U,h2⟩:=h.box b cs k;exact ⟨vs,ty,by rw [g.Mq b (FO U)];exact U,h2⟩
 JB:=h.JB
 hw b n k:=⟨Nat.lt_of_lt_of_le (h.hw b n k).1 g.size,(h.hw b n k).2⟩
 UF:=h.UF
theorem Fr.Kk (h:Fr I0 st0 w0 I st w) (g:GZ w w'):Fr I0 st0 w0 I st w' where
 os:=g.os.trans h.os
 tape:=g.tape.trans h.tape
 output:=g.output.trans h.output
 size:=Nat.le_trans h.size g.size
 Mq b hb U h2:=(g.Mq b (Nat.lt_of_lt_of_le hb h.size)).trans (h.Mq b hb U h2)
 le:=h.le
 new:=h.new
 Mo:=h.Mo
 Mb:=h.Mb
theorem Is.Kk {B:Nat} (h:Is D B I β env st a w) (g:GZ w w'):Is D B I β env st a w' where
 size:=h.size
 tmps:=h.tmps
 box id cs k:=by obtain ⟨b,U,h1⟩:=h.box id cs k;exact ⟨b,U,by rw [g.Mq b (h.sep id b U).2.1];exact h1⟩
 BI:=h.BI
 inj:=h.inj
 sep id b k:=⟨(h.sep id b k).1,Nat.lt_of_lt_of_le (h.sep id b k).2.1 g.size,(h.sep id b k).2.2⟩
 defers:=h.defers
theorem Rel.Kk (h:Rel D I0 st0 w0 I β env st a w) (g:GZ w w'):Rel D I0 st0 w0 I β env st a w':=⟨h.fr.Kk g,h.s.Kk g,h.f.Kk g⟩
theorem heap_alloc_new (w:World) (o:Obj):(w.alloc o).heap[w.heap.size]? =some o:=by
 simp only [World.alloc,Array.getElem?_push,if_true]
theorem p6 (h:CH I st w) {b:Nat} (k:st.box b≠none\/st.hw b≠none):b<w.heap.size:=by
 rcases k with k|k
 .cases hb:st.box b with
  |none=>exact absurd hb k
  |some cs=>obtain ⟨vs,ty,U,_⟩:=h.box b cs hb;exact FO U
 .cases hb:st.hw b with
  |none=>exact absurd hb k
  |some n=>exact (h.hw b n hb).1
theorem DV (h:CH I st w):st.fresh w.heap.size:=by
 constructor
 .cases hb:st.box w.heap.size with
  |none=>rfl
  |some cs=>exact absurd (p6 h (.inl (by rw [hb];simp))) (Nat.lt_irrefl _)
 .cases hb:st.hw w.heap.size with
  |none=>rfl
  |some cs=>exact absurd (p6 h (.inr (by rw [hb];simp))) (Nat.lt_irrefl _)
theorem Kv (h:CH I st w) (o:Nat):I.cell w.heap.size o=none:=by
 cases hb:I.cell w.heap.size o with
 |none=>rfl
 |some v=>exact absurd (Mn (h.cell _ _ _ hb)) (Nat.lt_irrefl _)
theorem Lw (h:CH I st w):I.shape w.heap.size=none:=by
 cases hb:I.shape w.heap.size with
 |none=>rfl
 |some v=>obtain ⟨c,ty,U,_⟩:=h.shape _ _ hb;exact absurd (FO U) (Nat.lt_irrefl _)
theorem Rel.VN (h:Rel D I0 st0 w0 I β env st a w) {cs:List V} {ob:Obj} (k:Laid I (some ob) cs) {x n:Nat} (hx:β x=none) (hn:x<n) (hle:env.BI<=n):
 Rel D I0 st0 w0 I (λi=>if i=x then some w.heap.size else β i) {env with boxes:=(x,cs)::env.boxes,BI:=n} st a (w.alloc ob):=by
 have g:=GZ.alloc w ob
 have h':=h.Kk g
 have hne:∀id b,β id=some b->id≠x:=λid b e=>by rintro rfl;rw [hx] at e;cases e
 refine ⟨h'.fr,h'.s,{h'.f with tmps:=?_,box:=?_,BI:=?_,inj:=?_,sep:=?_}⟩
 .intro t v e
  have:=h.f.tmps t v e
  cases v<;>first
   |exact this
   |(obtain ⟨b,h1,h2⟩:=this;exact ⟨b,(if_neg (hne _ _ h1)).trans h1,h2⟩)
 .intro id cs' e
  rw [BC] at e
  cases hb:Nat.beq x id with
  |true=>
   rw [hb] at e
   have:=Nat.eq_of_beq_eq_true hb
   subst this
   simp only [cond_true,Option.some.injEq] at e
   subst e
   exact ⟨_,if_pos rfl,by rw [heap_alloc_new w _];exact k⟩
  |false=>
   rw [hb] at e
   obtain ⟨b,h1,h2⟩:=h'.f.box id cs' e
   exact ⟨b,(if_neg (hne _ _ h1)).trans h1,h2⟩
 .intro id b e
  split at e
  .rename_i hid;subst hid;exact hn
  .exact Nat.lt_of_lt_of_le (h.f.BI id b e) hle
 .intro i j b U e2
  split at U<;>split at e2
  .rename_i x y;rw [x,y]
  .injection U with U;subst U;exact absurd (h.f.sep _ _ e2).2.1 (Nat.lt_irrefl _)
  .injection e2 with e2;subst e2;exact absurd (h.f.sep _ _ U).2.1 (Nat.lt_irrefl _)
  .exact h.f.inj i j b U e2
 .intro id b e
  split at e
  .injection e with e
   subst e
   exact ⟨h.fr.size,GT,Kv h.s,Lw h.s,(DV h.s).1,(DV h.s).2⟩
  .exact h'.f.sep id b e
theorem Rel.QV (h:Rel D I0 st0 w0 I β env st a w) {cs:List V} {vs:List Value} (k:Aj I cs vs) (ty:TypeId) {x n:Nat} (hx:β x=none) (hn:x<n) (U:env.BI<=n):
 Rel D I0 st0 w0 I (λi=>if i=x then some w.heap.size else β i) {env with boxes:=(x,cs)::env.boxes,BI:=n} st a (w.alloc (.cells vs.toArray ty)):=h.VN (.inl ⟨vs,ty,rfl,k⟩) hx hn U
theorem Rel.iK (h:Rel D I0 st0 w0 I β env st a w) {cs:List V} {vs:List Value} (k:Aj I cs vs) (ty:TypeId):
 Rel D I0 st0 w0 I (λi=>if i=env.BI then some w.heap.size else β i) {env with boxes:=(env.BI,cs)::env.boxes,BI:=env.BI+1} st a (w.alloc (.cells vs.toArray ty)):=
 h.QV k ty (by
  cases e:β env.BI with
  |none=>rfl
  |some b=>exact absurd (h.f.BI _ _ e) (Nat.lt_irrefl _)) (Nat.lt_succ_self _) (Nat.le_succ _)
theorem Rel.tg (h:Rel D I0 st0 w0 I β env st a w) {n:Nat} (hn:env.BI<=n):Rel D I0 st0 w0 I β {env with BI:=n} st a w:=
 ⟨h.fr,h.s,{h.f with BI:=λid b e=>Nat.lt_of_lt_of_le (h.f.BI id b e) hn}⟩
theorem Rel.Lg (h:Rel D I0 st0 w0 I β env st a w) {cs:List V} {vs:List Value} (k:Aj I cs vs) (ty:TypeId):
 Rel D I0 st0 w0 I β env (st.Ab w.heap.size cs) a (w.alloc (.cells vs.toArray ty)):=by
 have g:=GZ.alloc w (.cells vs.toArray ty)
 have U:=h.Kk g
 refine ⟨{U.fr with Mb:=?_},{U.s with box:=?_,JB:=?_},{U.f with sep:=?_}⟩
 .intro b hb
  by_cases e:b=w.heap.size
  .exact .inl (by rw [e];exact h.fr.size)
  .refine h.fr.Mb b ?_
   simpa [St.Ab,e] using hb
 .intro b cs' e
  simp only [St.Ab] at e
  split at e
  .rename_i hb;subst hb;injection e with e;subst e;exact ⟨vs,ty,heap_alloc_new w _,k⟩
  .exact U.s.box b cs' e
 .intro b e
  by_cases hb:b=w.heap.size
  .subst hb;exact ⟨Kv h.s,(DV h.s).2,Lw h.s⟩
  .exact h.s.JB b (by simpa [St.Ab,hb] using e)
 .intro id b e
  obtain ⟨h1,h2,h3,h4,h5,h6⟩:=h.f.sep id b e
  have:b≠w.heap.size:=AC
  exact ⟨h1,cb,h3,h4,by simp [St.Ab,this,h5],h6⟩
def Mem.add (I:Mem) (b h:Nat) (vs:List Value) (n:Nat):Mem where
 cell:=λx o=>if x=b/\h<=o/\o<h+vs.length then vs[o - h]? else I.cell x o
 shape:=λx=>if x=b then some n else I.shape x
theorem Mem.QU {I:Mem} {b h n:Nat} {vs:List Value} (k:∀o,h<=o->I.cell b o=none) (U:I.shape b=none\/I.shape b=some n):I.le (I.add b h vs n):=by
 constructor
 .intro x o v e
  simp only [Mem.add]
  rw [if_neg]
  .exact e
  .rintro ⟨rfl,h1,_⟩
   rw [k o h1] at e;cases e
 .intro x m e
  simp only [Mem.add]
  split
  .rename_i hx
   subst hx
   rcases U with U|U
   .rw [U] at e;cases e
   .rw [U] at e;exact e
  .exact e
theorem C6.add {I:Mem} {b h n:Nat} {vs:List Value}:∀(l:List V) (us:List Value) (o:Nat),Aj I l us->I.le (I.add b h vs n)->
 (∀j c,us[j]? =some c->(I.add b h vs n).cell b (o+j)=some c)->C6 (I.add b h vs n) b o l
 |[],us,o,k,U,hc=>by simp only [C6]
 |v::r,us,o,k,U,hc=>by
  simp only [Aj] at k
  obtain ⟨c,s,e,k1,k2⟩:=k
  subst e
  simp only [C6]
  refine ⟨⟨c,by simpa using hc 0 c GT,AE.mono U _ _ k1⟩,C6.add r s (o+1) k2 U λj c' hj=>?_⟩
  have:=hc (j+1) c' (by simpa using hj)
  rw [show o+1+j=o+(j+1) by omega];exact this
def BX (I:Mem) (sz:Nat):List (List V)->List Value->Prop
 |[],vs=>vs=[]
 |e::r,vs=>∃us s,vs=us++s/\e.length=sz/\Aj I e us/\BX I sz r s
theorem BX.length {I:Mem} {sz:Nat}:∀{l:List (List V)} {vs:List Value},BX I sz l vs->vs.length=l.length*sz
 |[],vs,k=>by simp only [BX] at k;subst k;simp
 |e::r,vs,k=>by
  simp only [BX] at k
  obtain ⟨us,s,U,h1,h2,h3⟩:=k
  subst U
  rw [List.length_append,<-Aj.length h2,h1,BX.length h3,List.length_cons,Nat.add_mul];omega
theorem Co.add {I:Mem} {b h n sz:Nat} {vs:List Value}:∀(l:List (List V)) (us:List Value) (o:Nat),BX I sz l us->I.le (I.add b h vs n)->
 (∀j c,us[j]? =some c->(I.add b h vs n).cell b (o+j)=some c)->Co (I.add b h vs n) sz b o l
 |[],us,o,k,hl,hc=>by simp only [Co]
 |e::r,us,o,k,hl,hc=>by
  simp only [BX] at k
  obtain ⟨u1,s,e1,h1,h2,h3⟩:=k
  subst e1
  have hu:u1.length=sz:=by rw [<-Aj.length h2,h1]
  simp only [Co]
  refine ⟨⟨h1,C6.add e u1 o h2 hl λj c U=>hc j c ?_⟩,Co.add r s (o+sz) h3 hl λj c U=>?_⟩
  .have hlt:j<u1.length:=by
    rcases Nat.lt_or_ge j u1.length with h|h
    .exact h
    .rw [List.getElem?_eq_none h] at U;cases U
   rw [List.getElem?_append_left hlt];exact U
  .have:=hc (sz+j) c (by rw [List.getElem?_append_right AC];simpa [hu] using U)
   rw [show o+sz+j=o+(sz+j) by omega];exact this
theorem Mem.Tn {I:Mem} {b h n:Nat} {vs:List Value} {j:Nat} {c:Value} (U:vs[j]? =some c):(I.add b h vs n).cell b (h+j)=some c:=by
 have hlt:j<vs.length:=by
  rcases Nat.lt_or_ge j vs.length with h|h
  .exact h
  .rw [List.getElem?_eq_none h] at U;cases U
 show (if b=b/\h<=h+j/\h+j<h+vs.length then vs[h+j - h]? else I.cell b (h+j))=some c
 rw [if_pos ⟨rfl,AC,AC⟩,show h+j - h=j by omega,U]
theorem Is.mem {B:Nat} {J:Mem} {st':St} (h:Is D B I β env st a w) (U:I.le J)
 (hs:∀id b,β id=some b->(∀o,J.cell b o=none)/\J.shape b=none/\st'.box b=none/\st'.hw b=none):Is D B J β env st' a w where
 size:=h.size
 tmps t v e:=(h.tmps t v e).mono U
 box id cs e:=by obtain ⟨b,h1,h2⟩:=h.box id cs e;exact ⟨b,h1,h2.mono U⟩
 BI:=h.BI
 inj:=h.inj
 sep id b e:=⟨(h.sep id b e).1,(h.sep id b e).2.1,hs id b e⟩
 defers:=h.defers
theorem Rel.newRow (h:Rel D I0 st0 w0 I β env st a w) (vs rest:List Value) (ty:TypeId):
 Rel D I0 st0 w0 (I.add w.heap.size 0 vs (vs.length+rest.length)) β env (st.B2 w.heap.size vs.length) a (w.alloc (.cells (vs++rest).toArray ty)):=by
 have g:=GZ.alloc w (.cells (vs++rest).toArray ty)
 have h':=h.Kk g
 have hl:I.le (I.add w.heap.size 0 vs (vs.length+rest.length)):=Mem.QU (λo _=>Kv h.s o) (.inl (Lw h.s))
 refine ⟨{h'.fr with le:=Mem.le_trans h.fr.le hl,new:=?_,Mo:=?_,Mb:=?_},⟨?_,?_,?_,?_,?_,TO hl.1 hl.2 h.s.UF⟩,Is.mem h'.f hl ?_⟩
 .intro b o h1 h2
  by_cases e:b=w.heap.size
  .exact .inl (by rw [e];exact h.fr.size)
  .exact h.fr.new b o h1 (by simpa [Mem.add,e] using h2)
 .intro b h1 h2
  by_cases e:b=w.heap.size
  .exact .inl (by rw [e];exact h.fr.size)
  .exact h.fr.Mo b h1 (by simpa [Mem.add,e] using h2)
 .intro b hb
  by_cases e:b=w.heap.size
  .exact .inl (by rw [e];exact h.fr.size)
  .refine h.fr.Mb b ?_
   simpa [St.B2,e] using hb
 .intro b o v e
  simp only [Mem.add] at e
  split at e
  .rename_i hb
   obtain ⟨rfl,h1,h2⟩:=hb
   simp only [World.cell?,heap_alloc_new]
   rw [Nat.sub_zero] at e
   simp only [Option.isSome_none,Bool.false_eq_true,if_false,List.getElem?_toArray]
   rw [List.getElem?_append_left AC];exact e
  .exact h'.s.cell b o v e
 .intro b n e
  simp only [Mem.add] at e
  split at e
  .rename_i hb;subst hb;injection e with e;subst e;exact ⟨_,ty,heap_alloc_new w _,GT⟩
  .exact h'.s.shape b n e
 .intro b cs e
  obtain ⟨us,ty',h1,h2⟩:=h'.s.box b cs e
  exact ⟨us,ty',h1,Aj.mono hl _ _ h2⟩
 .intro b e
  have U:b≠w.heap.size:=λhb=>e (by rw [hb];exact (DV h.s).1)
  obtain ⟨h1,h2,h3⟩:=h.s.JB b e
  exact ⟨λo=>by simp [Mem.add,U,h1 o],by simp [St.B2,U,h2],by simp [Mem.add,U,h3]⟩
 .intro b n e
  simp only [St.B2] at e
  split at e
  .rename_i hb
   subst hb
   injection e with e
   subst e
   exact ⟨GT,λo ho=>by simp only [Mem.add];rw [if_neg AC];exact Kv h.s o⟩
  .rename_i hb
   exact ⟨(h'.s.hw b n e).1,λo ho=>by simp only [Mem.add];rw [if_neg (by simp [hb])];exact (h'.s.hw b n e).2 o ho⟩
 .intro id b e
  obtain ⟨h1,h2,h3,h4,h5,h6⟩:=h.f.sep id b e
  have U:b≠w.heap.size:=AC
  exact ⟨λo=>by simp [Mem.add,U,h3 o],by simp [Mem.add,U,h4],h5,by simp [St.B2,U,h6]⟩
theorem Rel.IK {st':St} (h:Rel D I0 st0 w0 I β env st a w) (k:st'.le st):Rel D I0 st0 w0 I β env st' a w:=by
 have hb:∀b,st'.box b≠none->st.box b≠none:=λb e=>by
  cases U:st'.box b with
  |none=>exact absurd U e
  |some c=>rw [k.1 b c U];simp
 have U:∀b,st'.hw b≠none->st.hw b≠none:=λb e=>by
  cases U:st'.hw b with
  |none=>exact absurd U e
  |some c=>rw [k.2 b c U];simp
 have nb:∀b,st.box b=none->st'.box b=none:=λb e=>by
  cases hh':st'.box b with
  |none=>rfl
  |some c=>exact absurd e (hb b (by rw [hh'];simp))
 have nh:∀b,st.hw b=none->st'.hw b=none:=λb e=>by
  cases hh':st'.hw b with
  |none=>rfl
  |some c=>exact absurd e (U b (by rw [hh'];simp))
 refine ⟨{h.fr with Mb:=λb e=>h.fr.Mb b (e.imp (hb b) (U b))},{h.s with box:=λb cs e=>h.s.box b cs (k.1 b cs e),JB:=λb e=>?_,hw:=λb n e=>h.s.hw b n (k.2 b n e)},
  {h.f with sep:=λid b e=>?_}⟩
 .obtain ⟨h1,h2,h3⟩:=h.s.JB b (hb b e);exact ⟨h1,nh b h2,h3⟩
 .obtain ⟨h1,h2,h3,h4,h5,h6⟩:=h.f.sep id b e;exact ⟨h1,h2,h3,h4,nb b h5,nh b h6⟩
theorem Rel.Ke {env':Env} (h:Rel D I0 st0 w0 I β env st a w) (k:env'.le env):
 Rel D I0 st0 w0 I (λid=>if (assoc env'.boxes id).isSome then β id else none) env' st a w:=by
 obtain ⟨k1,k2,k3,k4⟩:=k
 refine ⟨h.fr,h.s,⟨h.f.size.trans k1.symm,?_,?_,?_,?_,?_,h.f.defers⟩⟩
 .intro t v e
  rcases k2 t v e with rfl|⟨h1,h2⟩
  .exact A8.of (v:=.Cj) (by simp only [AE])
  .have:=h.f.tmps t v h1
   cases v<;>first
    |exact this
    |(obtain ⟨b,h3,h4⟩:=this;exact ⟨b,(if_pos (by simpa only [V.T1] using h2)).trans h3,h4⟩)
 .intro id cs e
  obtain ⟨b,h1,h2⟩:=h.f.box id cs (k3 id cs e)
  exact ⟨b,(if_pos (by rw [e];rfl)).trans h1,h2⟩
 .intro id b e
  split at e
  .rename_i hs
   cases ha:assoc env'.boxes id with
   |none=>rw [ha] at hs;cases hs
   |some cs=>exact k4 id cs ha
  .cases e
 .intro i j b U e2
  split at U<;>split at e2<;>first|cases U;done|cases e2;done|exact h.f.inj i j b U e2
 .intro id b e
  split at e
  .exact h.f.sep id b e
  .cases e
theorem Rel.put (h:Rel D I0 st0 w0 I β env st a w) {v:V} {c:Value} (k:A8 I β v c) {t:Nat} (ht:t<env.sz):
 Rel D I0 st0 w0 I β {env with tmps:=(t,v)::env.tmps} st (a.put (some t) c) w:=by
 refine ⟨h.fr,h.s,{h.f with size:=?_,tmps:=?_,defers:=h.f.defers}⟩
 .simpa [Act.put] using h.f.size
 .intro t' v' e
  rw [BC] at e
  cases hb:Nat.beq t t' with
  |true=>
   rw [hb] at e
   have:=Nat.eq_of_beq_eq_true hb
   subst this
   simp only [cond_true,Option.some.injEq] at e
   subst e
   have U:t<a.tmps.size:=by rw [h.f.size];exact ht
   simpa [Act.put,U] using k
  |false=>
   rw [hb] at e
   have hne:t≠t':=λx=>by subst x;simp at hb
   have:=h.f.tmps t' v' e
   simpa [Act.put,Array.getElem?_setIfInBounds_ne hne] using this
theorem Rel.ZF (h:Rel D I0 st0 w0 I β env st a w) {id b:Nat} {cs cs':List V} {vs us:List Value} {ty:TypeId} (hb:β id=some b) (hw:w.heap[b]? =some (.cells vs.toArray ty (0,0)))
 (k:Aj I cs' us):Rel D I0 st0 w0 I β {env with boxes:=(id,cs')::env.boxes} st a (w.setRow b us.toArray):=by
 obtain ⟨s1,s2,s3,s4,s5,s6⟩:=h.f.sep id b hb
 have hn:=setRow_heap w b vs.toArray us.toArray ty (0,0) hw
 have ho:∀x,x≠b->(w.setRow b us.toArray).heap[x]? =w.heap[x]? :=λx U=>setRow_other w b x us.toArray U
 refine ⟨⟨h.fr.os,h.fr.tape,h.fr.output,by simpa using h.fr.size,λx U h1 h2=>?_,h.fr.le,h.fr.new,h.fr.Mo,h.fr.Mb⟩,⟨?_,?_,?_,h.s.JB,?_,h.s.UF⟩,⟨h.f.size,h.f.tmps,?_,h.f.BI,h.f.inj,?_,h.f.defers⟩⟩
 .rw [ho x AC];exact h.fr.Mq x U h1 h2
 .intro x o v e
  have U:x≠b:=λU=>by subst U;rw [s3 o] at e;cases e
  rw [Ia (ho x U)];exact h.s.cell x o v e
 .intro x n e
  have U:x≠b:=λU=>by subst U;rw [s4] at e;cases e
  obtain ⟨c,ty',h1,h2⟩:=h.s.shape x n e
  exact ⟨c,ty',by rw [ho x U];exact h1,h2⟩
 .intro x n e
  have U:x≠b:=λU=>by subst U;rw [s5] at e;cases e
  obtain ⟨c,ty',h1,h2⟩:=h.s.box x n e
  exact ⟨c,ty',by rw [ho x U];exact h1,h2⟩
 .intro x n e
  exact ⟨by simpa using (h.s.hw x n e).1,(h.s.hw x n e).2⟩
 .intro id' c e
  rw [BC] at e
  cases hq:Nat.beq id id' with
  |true=>
   rw [hq] at e
   have:=Nat.eq_of_beq_eq_true hq
   subst this
   simp only [cond_true,Option.some.injEq] at e
   subst e
   exact ⟨b,hb,.inl ⟨us,ty,hn,k⟩⟩
  |false=>
   rw [hq] at e
   obtain ⟨b',h1,h2⟩:=h.f.box id' c e
   have U:b'≠b:=λU=>by
    subst U
    have:=h.f.inj _ _ _ h1 hb
    subst this
    simp at hq
   exact ⟨b',h1,by rw [ho b' U];exact h2⟩
 .intro id' b' e
  obtain ⟨h1,h2,h3⟩:=h.f.sep id' b' e
  exact ⟨h1,by simpa using h2,h3⟩
theorem Rel.OX (h:Rel D I0 st0 w0 I β env st a w) {b:Nat} {cs cs':List V} {vs us:List Value} {ty:TypeId} (hb:st.box b=some cs) (hw:w.heap[b]? =some (.cells vs.toArray ty (0,0)))
 (k:Aj I cs' us):Rel D I0 st0 w0 I β env (st.Ab b cs') a (w.setRow b us.toArray):=by
 obtain ⟨s3,s6,s4⟩:=h.s.JB b (by rw [hb];simp)
 have hn:=setRow_heap w b vs.toArray us.toArray ty (0,0) hw
 have ho:∀x,x≠b->(w.setRow b us.toArray).heap[x]? =w.heap[x]? :=λx U=>setRow_other w b x us.toArray U
 have hd:=h.fr.Mb b (.inl (by rw [hb];simp))
 have nb:∀x,(st.Ab b cs').box x≠none->st.box x≠none:=λx e=>by
  by_cases U:x=b
  .subst U;rw [hb];simp
  .simpa [St.Ab,U] using e
 refine ⟨⟨h.fr.os,h.fr.tape,h.fr.output,by simpa using h.fr.size,λx U h1 h2=>?_,h.fr.le,h.fr.new,h.fr.Mo,λx e=>h.fr.Mb x (e.imp (nb x) id)⟩,⟨?_,?_,?_,λx e=>h.s.JB x (nb x e),?_,h.s.UF⟩,⟨h.f.size,h.f.tmps,?_,h.f.BI,h.f.inj,?_,h.f.defers⟩⟩
 .have hne:x≠b:=λe=>by
   subst e
   rcases hd with hd|hd|hd
   .omega
   .exact hd h1
   .exact hd h2
  rw [ho x hne];exact h.fr.Mq x U h1 h2
 .intro x o v e
  have U:x≠b:=λU=>by subst U;rw [s3 o] at e;cases e
  rw [Ia (ho x U)];exact h.s.cell x o v e
 .intro x n e
  have U:x≠b:=λU=>by subst U;rw [s4] at e;cases e
  obtain ⟨c,ty',h1,h2⟩:=h.s.shape x n e
  exact ⟨c,ty',by rw [ho x U];exact h1,h2⟩
 .intro x c e
  simp only [St.Ab] at e
  split at e
  .rename_i U;subst U;injection e with e;subst e;exact ⟨us,ty,hn,k⟩
  .rename_i U
   obtain ⟨c',ty',h1,h2⟩:=h.s.box x c e
   exact ⟨c',ty',by rw [ho x U];exact h1,h2⟩
 .intro x n e
  exact ⟨by simpa using (h.s.hw x n e).1,(h.s.hw x n e).2⟩
 .intro id' c e
  obtain ⟨b',h1,h2⟩:=h.f.box id' c e
  have U:b'≠b:=λU=>by
   subst U
   have:=(h.f.sep id' b' h1).2.2.2.2.1
   rw [hb] at this;cases this
  exact ⟨b',h1,by rw [ho b' U];exact h2⟩
 .intro id' b' e
  obtain ⟨h1,h2,h3,h4,h5,h6⟩:=h.f.sep id' b' e
  have U:b'≠b:=λU=>by subst U;rw [hb] at h5;cases h5
  exact ⟨h1,by simpa using h2,h3,h4,by simp [St.Ab,U,h5],h6⟩
theorem Rel.fx (h:Rel D I0 st0 w0 I β env st a w) {b n m:Nat} {cur:List Value} {ty:TypeId} (hh:st.hw b=some n) (hw:w.heap[b]? =some (.cells cur.toArray ty (0,0))) (hs:I.shape b=some m)
 (vs:List Value) (hle:n+vs.length<=cur.length):
 Rel D I0 st0 w0 (I.add b n vs m) β env ((st.Ex b).B2 b (n+vs.length)) a (w.setRow b (cur.take n++vs++cur.drop (n+vs.length)).toArray):=by
 have hf:=(h.s.hw b n hh).2
 have hl:I.le (I.add b n vs m):=Mem.QU hf (.inr hs)
 have hn:=setRow_heap w b cur.toArray (cur.take n++vs++cur.drop (n+vs.length)).toArray ty (0,0) hw
 have ho:∀x,x≠b->(w.setRow b (cur.take n++vs++cur.drop (n+vs.length)).toArray).heap[x]? =w.heap[x]? :=λx U=>setRow_other w b x _ U
 have hd:=h.fr.Mb b (.inr (by rw [hh];simp))
 have hbx:st.box b=none:=by
  cases e:st.box b with
  |none=>rfl
  |some c=>have:=(h.s.JB b (by rw [e];simp)).2.1;rw [hh] at this;cases this
 have nh:∀x,((st.Ex b).B2 b (n+vs.length)).hw x≠none->st.hw x≠none:=λx e=>by
  by_cases U:x=b
  .subst U;rw [hh];simp
  .simpa [St.B2,St.Ex,U] using e
 have hlen:(cur.take n++vs++cur.drop (n+vs.length)).length=cur.length:=cb
 refine ⟨⟨h.fr.os,h.fr.tape,h.fr.output,by simpa using h.fr.size,λx U h1 h2=>?_,Mem.le_trans h.fr.le hl,?_,?_,λx e=>h.fr.Mb x (e.imp id (nh x))⟩,⟨?_,?_,?_,?_,?_,TO hl.1 hl.2 h.s.UF⟩,
  ⟨h.f.size,λt v e=>(h.f.tmps t v e).mono hl,?_,h.f.BI,h.f.inj,?_,h.f.defers⟩⟩
 .have hne:x≠b:=λe=>by
   subst e
   rcases hd with hd|hd|hd
   .omega
   .exact hd h1
   .exact hd h2
  rw [ho x hne];exact h.fr.Mq x U h1 h2
 .intro x o h1 h2
  by_cases e:x=b
  .subst e;exact hd
  .exact h.fr.new x o h1 (by simpa [Mem.add,e] using h2)
 .intro x h1 h2
  by_cases e:x=b
  .subst e;exact hd
  .exact h.fr.Mo x h1 (by simpa [Mem.add,e] using h2)
 .intro x o v e
  simp only [Mem.add] at e
  split at e
  .rename_i U
   obtain ⟨rfl,h1,h2⟩:=U
   simp only [World.cell?,hn,Option.isSome_none,Bool.false_eq_true,if_false,List.getElem?_toArray]
   rw [List.getElem?_append_left cb,List.getElem?_append_right cb]
   rw [List.length_take,Nat.min_eq_left AC]
   exact e
  .rename_i U
   by_cases hxb:x=b
   .subst hxb
    have hc:=h.s.cell x o v e
    have hlt:o<n:=by
     rcases Nat.lt_or_ge o n with h'|h'
     .exact h'
     .rw [hf o h'] at e;cases e
    simp only [World.cell?,hw,Option.isSome_none,Bool.false_eq_true,if_false,List.getElem?_toArray] at hc
    simp only [World.cell?,hn,Option.isSome_none,Bool.false_eq_true,if_false,List.getElem?_toArray]
    rw [List.append_assoc,List.getElem?_append_left cb,List.getElem?_take,if_pos hlt]
    exact hc
   .rw [Ia (ho x hxb)];exact h.s.cell x o v e
 .intro x k e
  simp only [Mem.add] at e
  split at e
  .rename_i U
   subst U
   injection e with e
   subst e
   obtain ⟨c,ty',h1,h2⟩:=h.s.shape x _ hs
   rw [hw] at h1
   injection h1 with h1
   injection h1 with h1 _ _
   subst h1
   exact ⟨_,ty,hn,by rw [List.size_toArray,hlen];simpa using h2⟩
  .rename_i U
   obtain ⟨c,ty',h1,h2⟩:=h.s.shape x k e
   exact ⟨c,ty',by rw [ho x U];exact h1,h2⟩
 .intro x c e
  have U:x≠b:=λU=>by
   subst U
   rw [show ((st.Ex x).B2 x (n+vs.length)).box x=st.box x from rfl,hbx] at e;cases e
  obtain ⟨c',ty',h1,h2⟩:=h.s.box x c e
  exact ⟨c',ty',by rw [ho x U];exact h1,Aj.mono hl _ _ h2⟩
 .intro x e
  have U:x≠b:=λU=>e (by subst U;exact hbx)
  obtain ⟨h1,h2,h3⟩:=h.s.JB x e
  exact ⟨λo=>by simp [Mem.add,U,h1 o],by simp [St.B2,St.Ex,U,h2],by simp [Mem.add,U,h3]⟩
 .intro x k e
  simp only [St.B2,St.Ex] at e
  split at e
  .rename_i U
   subst U
   injection e with e
   subst e
   exact ⟨by simpa using (h.s.hw x n hh).1,λo ho'=>by simp only [Mem.add];rw [if_neg AC];exact hf o AC⟩
  .rename_i U
   first|rw [if_neg U] at e|skip
   exact ⟨by simpa using (h.s.hw x k e).1,λo ho'=>by simp only [Mem.add];rw [if_neg (by simp [U])];exact (h.s.hw x k e).2 o ho'⟩
 .intro id' c e
  obtain ⟨b',h1,h2⟩:=h.f.box id' c e
  have U:b'≠b:=λU=>by
   subst U
   have:=(h.f.sep id' b' h1).2.2.2.2.2
   rw [hh] at this;cases this
  exact ⟨b',h1,by rw [ho b' U];exact h2.mono hl⟩
 .intro id' b' e
  obtain ⟨h1,h2,h3,h4,h5,h6⟩:=h.f.sep id' b' e
  have U:b'≠b:=λU=>by subst U;rw [hh] at h6;cases h6
  exact ⟨h1,by simpa using h2,λo=>by simp [Mem.add,U,h3 o],by simp [Mem.add,U,h4],h5,by simp [St.B2,St.Ex,U,h6]⟩
theorem Rel.called {I1:Mem} {U:St} {w1:World} (h:Rel D I0 st0 w0 I β env st a w) (f:Fr I st w I1 U w1) (s:CH I1 U w1):Rel D I0 st0 w0 I1 β env U a w1:=by
 have key:∀id b,β id=some b->(∀o,I1.cell b o=none)/\U.box b=none/\U.hw b=none/\w1.heap[b]? =w.heap[b]? :=λid b e=>by
  obtain ⟨h1,h2,h3,h4,h5,h6⟩:=h.f.sep id b e
  refine ⟨λo=>?_,?_,?_,f.Mq b h2 h5 h6⟩
  .cases hc:I1.cell b o with
   |none=>rfl
   |some v=>rcases f.new b o (h3 o) (by rw [hc];simp) with h|h|h<;>first|omega|contradiction
  .cases hc:U.box b with
   |none=>rfl
   |some v=>rcases f.Mb b (.inl (by rw [hc];simp)) with h|h|h<;>first|omega|contradiction
  .cases hc:U.hw b with
   |none=>rfl
   |some v=>rcases f.Mb b (.inr (by rw [hc];simp)) with h|h|h<;>first|omega|contradiction
 refine ⟨h.fr.trans f,s,⟨h.f.size,λt v e=>(h.f.tmps t v e).mono f.le,?_,h.f.BI,h.f.inj,?_,h.f.defers⟩⟩
 .intro id cs e
  obtain ⟨b,h1,h2⟩:=h.f.box id cs e
  exact ⟨b,h1,by rw [(key id b h1).2.2.2];exact h2.mono f.le⟩
 .intro id b e
  obtain ⟨h1,h2,h3,h4,h5,h6⟩:=h.f.sep id b e
  obtain ⟨k1,k2,k3,k4⟩:=key id b e
  refine ⟨h1,Nat.lt_of_lt_of_le h2 f.size,k1,?_,k2,k3⟩
  cases hc:I1.shape b with
  |none=>rfl
  |some v=>rcases f.Mo b h4 (by rw [hc];simp) with h|h|h<;>first|omega|contradiction
end
def Mem.empty:Mem:=⟨λ_ _=>none,λ_=>none⟩
theorem Mem.empty_le (I:Mem):Mem.empty.le I:=⟨λ_ _ _ h=>(by cases h),λ_ _ h=>(by cases h)⟩
def Yc:TypeDesc->Bool
 | .struct _| .array _ _=>true
 |_=>false
def gN (P:Program) (t:TypeId) (z:List V):Bool:=
 !P.stoodInHeld t&& !P.eqGuardType P.depth t&&match P.underlying t with
 |some (.struct fs)=>fs.size==z.length&&(List.range z.length).all λi=>match fs.toList[i]?,z[i]? with
  | some f, some v => f.name != "_" && f.offset == i && P.plainKey f.type && match v, P.underlying f.type with
    | .int _ _,some (.int _)=>true
    | .str _,some .string=>true
    | .bool _,some .bool=>true
    |_,_=>false
  |_,_=>false
 |_=>false
def O6 (P:Program) (t:TypeId):Ty->Prop
 | .sc z=>∃i d c,P.info? t=some i/\P.underlying t=some d/\Yc d=false/\i.size=1/\i.zero=some c/\AE Mem.empty z c/\c.cells=#[c]/\z.known=true/\z.cells=[z]/\
    (match z with| .str _=>d=.string| .GH=>∃ms,d=.interface ms| .int k _=>d=.int k| .bool _=>d=.bool|_=>∀ms,d≠.interface ms)
 | .slice e sz bytes=>∃i j c,P.info? t=some i/\P.underlying t=some (.slice e)/\i.size=1/\i.zero=some (.slice none 0 0)/\P.info? e=some j/\j.size=sz/\j.bytes=bytes/\0<sz/\j.zero=some c/\c.cells.size=sz
 | .struct U z=>∃i fields,∃zs:List Value,P.info? t=some i/\P.underlying t=some (.struct fields)/\i.size=z.length/\i.zero=some (.agg zs.toArray)/\Aj Mem.empty z zs/\ 
    fields.size=U.length/\(∀(n o s:Nat),U[n]? =some (o,s)->∃(f:Field) (j:TypeInfo),(fields[n]? =some f/\f.offset=o/\P.info? f.type=some j/\j.size=s))/\
    (hZ z=true->gN P t z=true)/\(∀n o:Nat,U[n]? =some (o,1)->∃(f:Field) (d:TypeDesc),fields[n]? =some f/\f.offset=o/\P.underlying f.type=some d/\Yc d=false)
 | .arr U z=>∃i n e j,∃zs:List Value,P.info? t=some i/\P.underlying t=some (.array n e)/\i.size=z.length/\i.zero=some (.agg zs.toArray)/\Aj Mem.empty z zs/\P.info? e=some j/\
    (∀(n o s:Nat),U[n]? =some (o,s)->o=n*j.size/\s=j.size)
def Hf (P:Program) (T:List (Nat×Ty)):Prop:=∀t ty,assoc T t=some ty->O6 P t ty
section
variable {D:List Deferred} {P:Program} {T:List (Nat×Ty)} {I:Mem} {β:Nat->Option Nat} {env:Env} {st:St} {a:Act} {w:World} {B:Nat}
theorem Is.get (h:Is D B I β env st a w) (t:Nat):A8 I β (env.get t) (a.tmps.getD t undef):=by
 simp only [Env.get]
 cases U:assoc env.tmps t with
 |none=>exact A8.of (by simp only [AE])
 |some v=>exact h.tmps t v U
theorem dW (c:Value):AE I (P9 c) c:=by
 unfold P9
 split
 .simp only [AE]
 .simp only [AE]
 .rename_i l
  split
  .rename_i h
   simp only [AE]
   exact ⟨trivial,by simpa [Nat.blt_eq,Fe] using h⟩
  .simp only [AE]
 all_goals simp only [AE]
theorem Is.eval (h:Is D B I β env st a w) (x:Operand):A8 I β (env.eval x) (a.eval x):=by
 cases x with
 |tmp t=>exact h.get t
 |const c=>exact A8.of (dW c)
 |global g=>exact A8.of (v:=.Cj) (by simp only [AE])
 |func f=>exact A8.of (v:=.func f [] []) (by simp only [AE];exact ⟨[],[],rfl,by simp only [Aj],by simp only [Aj]⟩)
theorem LN {x:Operand} (h:FL x=true):x=.const (.slice none 0 0):=by
 unfold FL at h
 split at h
 .rfl
 .cases h
theorem J0 {sz:Nat} (h:0<sz) (own:AF) (U:own=.full\/own=.any):AE I (.slice sz [] own) (.slice none 0 0):=by
 simp only [AE]
 exact ⟨none,0,rfl,Nat.le_refl _,by simp [Fe],h,by rcases U with rfl|rfl;exact rfl;trivial,rfl⟩
theorem Is.Bz (hT:Hf P T) (h:Is D B I β env st a w) (t:TypeId) (x:Operand):A8 I β (env.Bz T t x) (a.eval x):=by
 simp only [Env.Bz]
 cases hn:FL x with
 |false=>exact h.eval x
 |true=>
  have:=LN hn
  subst this
  simp only
  split
  .rename_i e sz b ht
   obtain ⟨i,j,c,_,_,_,_,_,_,_,U,_⟩:=hT t _ ht
   exact A8.of (J0 U _ (.inl rfl))
  .exact A8.of (v:=.Cj) (by simp only [AE])
theorem A8.rep {v:V} {c:Value} (h:A8 I β v c) (k:v.plain=true):AE I v c:=by
 cases v<;>first|exact h|cases k
theorem AD {t:TypeId} {d:TypeDesc} (h:P.underlying t=some d):(underlying t).run P w=.ok d w:=run_underlying h w
theorem Oh {t:TypeId} {d:TypeDesc} (h:P.underlying t=some d):(isAgg t).run P w=.ok (Yc d) w:=by
 simp only [isAgg,Sem.run_bind,AD h,Result.andThen_ok]
 cases d<;>rfl
theorem CG {t:TypeId} {i:TypeInfo} (h:P.info? t=some i):(sizeOf t).run P w=.ok i.size w:=by
 simp [sizeOf,typeInfo,h]
theorem EO {t:TypeId} {i:TypeInfo} {z:Value} (h:P.info? t=some i) (U:i.zero=some z):(zeroValue t).run P w=.ok z w:=by
 simp [zeroValue,typeInfo,h,U]
def Ty.one:Ty->Prop
 | .struct _ _| .arr _ _=>False
 |_=>True
theorem O6.sc {t:TypeId} {ty:Ty} (h:O6 P t ty) (k:ty.one):∃i d c,P.info? t=some i/\P.underlying t=some d/\Yc d=false/\i.size=1/\i.zero=some c/\AE Mem.empty ty.zero c/\c.cells=#[c]:=by
 cases ty with
 |sc z=>
  obtain ⟨i,d,c,U,h2,h3,h4,h5,h6,h7,_⟩:=h
  exact ⟨i,d,c,U,h2,h3,h4,h5,h6,h7⟩
 |slice e sz b=>
  obtain ⟨i,j,c,U,h2,h3,h4,h5,h6,h7,h8,_⟩:=h
  exact ⟨i,.slice e,.slice none 0 0,U,h2,rfl,h3,h4,J0 h8 _ (.inl rfl),rfl⟩
 |struct _ _=>exact k.elim
 |arr _ _=>exact k.elim
theorem Rp {t:TypeId} {ty:Ty} (h:O6 P t ty) (k:ty.one) {U:Addr} {v:Value} (hv:w.cell? U=some v):(loadVar t U).run P w=.ok v w:=by
 obtain ⟨i,d,c,h1,h2,h3,_⟩:=h.sc k
 simp only [loadVar,Sem.run_bind,Oh h2,h3,Result.andThen_ok,Bool.false_eq_true,if_false,run_load,hv]
theorem Dz (b o n:Nat):(⟨b,o,none⟩:Addr).add n=⟨b,o+n,none⟩:=by unfold Addr.add;split<;>simp_all
theorem HW {t:TypeId} {U:List (Nat×Nat)} {z:List V} (h:O6 P t (.struct U z)) {b o:Nat} {vs:List Value} (hl:vs.length=z.length)
 (hv:∀j v,vs[j]? =some v->w.cell? ⟨b,o+j,none⟩=some v):(loadVar t ⟨b,o,none⟩).run P w=.ok (.agg vs.toArray) w:=by
 obtain ⟨i,fields,zs,h1,h2,h3,_⟩:=h
 have hc:=run_loadCells_list (P:=P) w ⟨b,o,none⟩ vs (λj v e=>by rw [Dz];exact hv j v e)
 rw [hl,<-h3] at hc
 simp only [loadVar,Sem.run_bind,Oh h2,Yc,CG h1,Result.andThen_ok,if_true,hc,Sem.run_pure]
theorem EH (hT:Hf P T) {cs:List V} {vs:List Value} {b o off:Nat} {t:TypeId} {K:V->Prop} (hk:Aj I cs vs) (hv:∀j v,vs[j]? =some v->w.cell? ⟨b,o+j,none⟩=some v)
 (h:DD cs off (assoc T t) K):∃v c,(loadVar t ⟨b,o+off,none⟩).run P w=.ok c w/\AE I v c/\K v:=by
 have U:∀ty:Ty,assoc T t=some ty->ty.one->(match cs[off]? with|some v=>v.force K|none=>False)->∃v c,(loadVar t ⟨b,o+off,none⟩).run P w=.ok c w/\AE I v c/\K v:=by
  intro ty ht hone h
  cases hc:cs[off]? with
  |none=>rw [hc] at h;exact h.elim
  |some v=>
   rw [hc] at h
   obtain ⟨c,h1,h2⟩:=Aj.get hk hc
   exact ⟨v,c,Rp (hT t ty ht) hone (hv off c h1),h2,V.AP.1 h⟩
 unfold DD at h
 replace h:=(At.1 h).2
 split at h
 .rename_i offs z ht
  have hty:=hT t _ ht
  have hlen:=Aj.length hk
  split at h
  .rename_i hb
   simp only [Bool.and_eq_true] at hb
   have h0:off=0:=Nat.eq_of_beq_eq_true hb.1
   have hz:z.length=cs.length:=Nat.eq_of_beq_eq_true hb.2
   subst h0
   exact ⟨.agg cs,.agg vs.toArray,HW hty AC (λj v e=>by simpa using hv j v e),by simp only [AE];exact ⟨vs,rfl,hk⟩,h⟩
  .obtain ⟨hle,h⟩:=At.1 h
   have hle:=Nat.le_of_ble_eq_true hle
   refine ⟨_,.agg ((vs.drop off).take z.length).toArray,HW hty cb (λj v e=>?_),?_,BD.1 h⟩
   .have:vs[off+j]? =some v:=by
     rw [List.getElem?_take] at e
     split at e
     .rw [List.getElem?_drop] at e;exact e
     .cases e
    rw [Nat.add_assoc];exact hv _ _ this
   .simp only [AE]
    exact ⟨_,rfl,Aj.take _ (Aj.drop _ hk)⟩
 .exact h.elim
 .rename_i ty hns hna ht
  exact U _ ht (by cases ty<;>first|trivial|exact (hns _ _ rfl).elim|exact (hna _ _ rfl).elim) h
 .exact h.elim
end
def W6 (I:Mem):Ending->AL->Prop
 | .returned c,.ret v=>AE I v c
 | .panicked chain,.Cz v=>∃c,chain=[{v:=c,recovered:=false}]/\AE I v c
 |_,_=>False
def Dp (P:Program) (f:FuncId) (args:List V) (st:St) (R:AL->St->Prop):Prop:=
 ∀(I:Mem) (w:World) (U:List Value),CH I st w->Aj I args U->
  Calls P f U.toArray w λe w'=>∃I' st' r,Fr I st w I' st' w'/\CH I' st' w'/\W6 I' e r/\R r st'
theorem Dp.mono {P:Program} {f:FuncId} {args:List V} {st:St} {R R':AL->St->Prop} (h:Dp P f args st R) (k:∀r s,R r s->R' r s):Dp P f args st R':=
 λI w U h1 h2=>(h I w U h1 h2).mono λe w' ⟨I',st',r,k1,k2,k3,k4⟩=>⟨I',st',r,k1,k2,k3,k r st' k4⟩
def sR (I:Mem):Exit->AM->Prop
 | .normal,.normal=>True
 | .exit i,.exit j=>i=j
 | .goto i,.goto j=>i=j
 | .ret,.ret=>True
 | .panic chain,.Cz v=>∃c,chain=[{v:=c,recovered:=false}]/\AE I v c
 |_,_=>False
def Cg (D:List Deferred) (I0:Mem) (st0:St) (w0:World) (Q:AM->Env->St->Prop):Exit->Act->World->Prop:=
 λe a w=>∃I β env st U,Rel D I0 st0 w0 I β env st a w/\sR I e U/\Q U env st
def AW (P:Program) (c:Code) (Q:AM->Env->St->Prop) (env:Env) (st:St):Prop:=
 ∀D I0 st0 w0 I β a w,Rel D I0 st0 w0 I β env st a w->c.wp P (Cg D I0 st0 w0 Q) a w
section
variable {D:List Deferred} {P:Program} {T:List (Nat×Ty)} {C:FuncId->List V->St->(AL->St->Prop)->Prop} {I0 I:Mem} {st0 st:St} {w0 w:World} {β:Nat->Option Nat} {env:Env} {a:Act}
variable {o:Oper} {K:V->Env->St->Prop} {Q:AM->Env->St->Prop} {next:Act->World->Prop}
def CJ (D:List Deferred) (I0:Mem) (st0:St) (w0:World) (U:Nat->Option Nat) (n0:Nat) (a:Act) (dst:Option Tmp) (next:Act->World->Prop) (K:V->Env->St->Prop):Prop:=
 ∀I β env st v c w,Rel D I0 st0 w0 I β env st a w->A8 I β v c->(∀id,id<n0->β id=U id)->K v env st->next (a.put dst c) w
theorem AX {c:Value} {v:V} {w':World} {I':Mem} {β':Nat->Option Nat} {env':Env} {st':St} {Qc:Exit->Act->World->Prop} (hK:CJ D I0 st0 w0 β env.BI a o.dst next K)
 (hr:(execOp a.eval o).run P w=.ok (.value c) w') (h:Rel D I0 st0 w0 I' β' env' st' a w') (hv:A8 I' β' v c) (k:K v env' st') (U:∀id,id<env.BI->β' id=β id:=by exact λ_ _=>rfl):o.wp P a w next Qc:=by
 unfold Oper.wp;rw [hr];exact hK _ _ _ _ _ _ _ h hv U k
theorem bb {w':World} {I':Mem} {β':Nat->Option Nat} {env':Env} {st':St} {Qc:Exit->Act->World->Prop} (hK:CJ D I0 st0 w0 β env.BI a o.dst next K)
 (hr:(execOp a.eval o).run P w=.ok .skip w') (h:Rel D I0 st0 w0 I' β' env' st' a w') (k:K .Cj env' st') (U:∀id,id<env.BI->β' id=β id:=by exact λ_ _=>rfl):o.wp P a w next Qc:=by
 unfold Oper.wp;rw [hr];exact hK _ _ _ _ _ _ _ h (A8.of (v:=.Cj) (by simp only [AE])) U k
theorem E5 {v:V} {c:Value} (h:AE I v c) (k:v.known=true):Aj I v.cells c.cells.toList:=by
 have one:∀{u:V} {c:Value},AE I u c->c.cells=#[c]->Aj I [u] c.cells.toList:=λ{u c} h e=>by
  rw [e];simp only [Aj];exact ⟨c,[],rfl,h,rfl⟩
 cases v with
 |Cj=>cases k
 |Cu _ _=>cases k
 |agg cs=>simp only [AE] at h;obtain ⟨vs,rfl,h⟩:=h;exact h
 |bool b=>refine one h ?_;simp only [AE] at h;subst h;rfl
 |int U n=>refine one h ?_;simp only [AE] at h;subst h;rfl
 |str s=>refine one h ?_;simp only [AE] at h;rw [h.1];rfl
 |Bh cs=>refine one h ?_;simp only [AE] at h;obtain ⟨vs,rfl,_⟩:=h;rfl
 |slice sz es own=>refine one h ?_;simp only [AE] at h;obtain ⟨x,y,rfl,_⟩:=h;rfl
 |ptr b off=>refine one h ?_;simp only [AE] at h;subst h;rfl
 |Iy b off=>refine one h ?_;simp only [AE] at h;obtain ⟨x,y,rfl,_⟩:=h;rfl
 |Gl=>refine one h ?_;simp only [AE] at h;subst h;rfl
 |func f x y=>refine one h ?_;simp only [AE] at h;obtain ⟨x,y,rfl,_⟩:=h;rfl
 |AK=>refine one h ?_;simp only [AE] at h;subst h;rfl
 |iface t v=>refine one h ?_;simp only [AE] at h;obtain ⟨x,rfl,_⟩:=h;rfl
 |GH=>refine one h ?_;simp only [AE] at h;subst h;rfl
 |O9 _ _=>cases k
 |DM _ _ _ _=>refine one h ?_;simp only [AE] at h;rw [h.1];rfl
 |ff l=>refine one h ?_;simp only [AE] at h;subst h;rfl
theorem FX {v:V} (h:v.known=true):v.plain=true:=by cases v<;>first|rfl|cases h
theorem rT {v:V} {c:Value} (h:AE I v c) (k:v.sc=true):c.oneCell'=true:=by
 cases v with
 |Cj=>cases k
 |agg cs=>cases k
 |Bh cs=>cases k
 |Cu _ _=>simp only [AE] at h
 |bool b=>simp only [AE] at h;subst h;rfl
 |int U n=>simp only [AE] at h;subst h;rfl
 |str s=>simp only [AE] at h;rw [h.1];rfl
 |slice sz es own=>simp only [AE] at h;obtain ⟨x,y,rfl,_⟩:=h;rfl
 |ptr b off=>simp only [AE] at h;subst h;rfl
 |Iy b off=>simp only [AE] at h;obtain ⟨x,y,rfl,_⟩:=h;rfl
 |Gl=>simp only [AE] at h;subst h;rfl
 |func f x y=>simp only [AE] at h;obtain ⟨x,y,rfl,_⟩:=h;rfl
 |AK=>simp only [AE] at h;subst h;rfl
 |iface t v=>simp only [AE] at h;obtain ⟨x,rfl,_⟩:=h;rfl
 |GH=>simp only [AE] at h;subst h;rfl
 |O9 _ _=>cases k
 |DM _ _ _ _=>simp only [AE] at h;rw [h.1];rfl
 |ff l=>simp only [AE] at h;subst h;rfl
theorem Zv:∀{l:List V} {vs:List Value},Aj I l vs->l.all V.sc=true->∀c ∈ vs,c.oneCell'=true
 |[],vs,k,h,c,hc=>by simp only [Aj] at k;subst k;cases hc
 |v::r,vs,k,h,c,hc=>by
  simp only [Aj] at k
  obtain ⟨c',s,e,U,k2⟩:=k
  subst e
  simp only [List.all_cons,Bool.and_eq_true] at h
  rcases List.mem_cons.1 hc with rfl|hc
  .exact rT U h.1
  .exact Zv k2 h.2 c hc
theorem GA {B:Nat} (h:Is D B I β env st a w):∀{l:List Operand} {K:List V->Prop},UM env l K->∃vs,Aj I vs (l.map a.eval)/\K vs
 |[],K,k=>⟨[],by simp only [List.map_nil,Aj],k⟩
 |x::r,K,k=>by
  rw [Vi,V.AP] at k
  obtain ⟨hp,k⟩:=At.1 k
  obtain ⟨vs,U,h2⟩:=GA h k
  exact ⟨_,by simp only [List.map_cons,Aj];exact ⟨_,_,rfl,(h.eval x).rep hp,U⟩,h2⟩
theorem QI (U:Hf P T) {B:Nat} (h:Is D B I β env st a w):∀{ts:List TypeId} {l:List Operand} {K:List V->Prop},Yu T env ts l K->∃vs,Aj I vs (l.map a.eval)/\K vs
 |ts,[],K,k=>⟨[],by simp only [List.map_nil,Aj],k⟩
 |ts,x::r,K,k=>by
  rw [Sw,V.AP] at k
  obtain ⟨hp,k⟩:=At.1 k
  obtain ⟨vs,h1,h2⟩:=QI U h k
  exact ⟨_,by simp only [List.map_cons,Aj];exact ⟨_,_,rfl,(h.Bz U _ x).rep hp,h1⟩,h2⟩
theorem M9 (hK:CJ D I0 st0 w0 β env.BI a o.dst next K) (h:Rel D I0 st0 w0 I β env st a w) {cs:List V} {vs:List Value} (hv:Aj I cs vs) (ty:TypeId)
 (k:N4 env st o.dst cs K):next (a.put o.dst (.pointer (some ⟨w.heap.size,0,none⟩))) (w.alloc (.cells vs.toArray ty)):=by
 unfold N4 at k
 split at k
 .have k:=BD.1 k _ (DV h.s)
  exact hK _ _ _ _ _ _ _ (h.Lg hv ty) (A8.of (by simp only [AE])) (λ_ _=>rfl) k
 .have k:=BD.1 k
  exact hK _ _ _ _ (.Cu _ 0) _ _ (h.iK hv ty) (show ∃b,_/\_ from ⟨w.heap.size,if_pos rfl,rfl⟩) (λid U=>if_neg (Nat.ne_of_lt U)) k
theorem cC {B:Nat} {op:BinOp} {x y:V} {cx cy:Value} {K:V->Prop} (h1:A8 I β x cx) (h2:A8 I β y cy) (t:TypeId) (ox oy:Operand) (k:bin op x y K):
 ∃v c,(do eqGuard op t ox oy cx cy;binOp op t cx cy:Sem Value).run P w=.ok c w/\AE I v c/\K v:=by
 have U:∀{cx cy:Value},((∃k n,cx=.int k n)\/(∃s,cx=.string s))->(eqGuard op t ox oy cx cy).run P w=.ok () w:=by
  intro cx cy h
  rcases h with ⟨k,n,rfl⟩|⟨s,rfl⟩<;>(unfold eqGuard;cases op<;>rfl)
 unfold bin at k
 split at k
 .rename_i ka na kb nb
  have e1:cx=.int ka na:=by have:=h1;simpa only [A8,AE] using this
  have e2:cy=.int kb nb:=by have:=h2;simpa only [A8,AE] using this
  subst e1;subst e2
  have k':D3 (decide (ka=kb)) _:=k
  rw [At] at k'
  obtain ⟨hk,k'⟩:=k'
  clear k
  have hk:=of_decide_eq_true hk
  subst hk
  revert k'
  intro k
  simp only [Sem.run_bind,U (.inl ⟨_,_,rfl⟩),Result.andThen_ok]
  have bc:∀{b:Bool} {K:V->Prop},Bk b (K (.bool true)) (K (.bool false))->K (.bool b):=λ{b K} h=>by cases b<;>first|exact Bb.1 h|exact Bg.1 h
  have bcn:∀{b:Bool} {K:V->Prop},Bk b (K (.bool false)) (K (.bool true))->K (.bool (!b)):=λ{b K} h=>by cases b<;>first|exact Bb.1 h|exact Bg.1 h
  cases op
  case add=>obtain ⟨r,rfl,k⟩:=k;exact ⟨_,_,by simp [binOp,Op.intArith];rfl,by simp only [AE],k⟩
  case sub=>obtain ⟨r,rfl,k⟩:=k;exact ⟨_,_,by simp [binOp,Op.intArith];rfl,by simp only [AE],k⟩
  case mul=>obtain ⟨r,rfl,k⟩:=k;exact ⟨_,_,by simp [binOp,Op.intArith];rfl,by simp only [AE],k⟩
  case quo=>obtain ⟨hb,r,rfl,k⟩:=k;exact ⟨_,_,by simp [binOp,Op.intDiv,hb];rfl,by simp only [AE],k⟩
  case rem=>obtain ⟨hb,k⟩:=k;exact ⟨_,_,by simp [binOp,Op.intDiv,hb];rfl,by simp only [AE],k⟩
  case and=>obtain ⟨r,rfl,k⟩:=k;exact ⟨_,_,by simp only [binOp,Op.intBits,ne_eq,not_true_eq_false,if_false];rfl,by simp only [AE],k⟩
  case eql=>exact ⟨_,_,by simp [binOp,Op.intCmp];rfl,by simp only [AE],bc (K:=K) k⟩
  case neq=>exact ⟨_,_,by simp [binOp,Op.intCmp,bne];rfl,by simp only [AE],bcn (K:=K) k⟩
  case lss=>exact ⟨_,_,by simp [binOp,Op.intCmp];rfl,by simp only [AE],bc (K:=K) k⟩
  case leq=>exact ⟨_,_,by simp [binOp,Op.intCmp];rfl,by simp only [AE],bc (K:=K) k⟩
  case gtr=>exact ⟨_,_,by simp [binOp,Op.intCmp];rfl,by simp only [AE],bc (K:=K) k⟩
  case geq=>exact ⟨_,_,by simp [binOp,Op.intCmp];rfl,by simp only [AE],bc (K:=K) k⟩
  all_goals exact k.elim
 .rename_i sa sb
  have e1:cx=.string ⟨sa.toArray⟩/\sa.length<Fe:=by have:=h1;simpa only [A8,AE] using this
  have e2:cy=.string ⟨sb.toArray⟩/\sb.length<Fe:=by have:=h2;simpa only [A8,AE] using this
  obtain ⟨rfl,l1⟩:=e1
  obtain ⟨rfl,l2⟩:=e2
  simp only [Sem.run_bind,U (.inr ⟨_,rfl⟩),Result.andThen_ok]
  have bc:∀{b:Bool} {K:V->Prop},Bk b (K (.bool true)) (K (.bool false))->K (.bool b):=λ{b K} h=>by cases b<;>first|exact Bb.1 h|exact Bg.1 h
  have bcn:∀{b:Bool} {K:V->Prop},Bk b (K (.bool false)) (K (.bool true))->K (.bool (!b)):=λ{b K} h=>by cases b<;>first|exact Bb.1 h|exact Bg.1 h
  have hl:∀s:List UInt8,(⟨s.toArray⟩:ByteArray).toList=s:=λs=>ByteArray.toList_mk s
  cases op
  case add=>
   obtain ⟨hlen,k⟩:=k
   refine ⟨_,.string (⟨sa.toArray⟩++⟨sb.toArray⟩),?_,?_,k⟩
   .have:¬((9223372036854775807:Int)<((sa.length+sb.length:Nat):Int)):=by simp only [Fe] at hlen;omega
    have hs:(⟨sa.toArray⟩:ByteArray).size+(⟨sb.toArray⟩:ByteArray).size=sa.length+sb.length:=by
     show sa.toArray.size+sb.toArray.size=_
     simp
    have hm:IntKind.i64.max=9223372036854775807:=Do
    simp only [binOp,Op.stringOp,hs]
    rw [hm,if_neg this]
    rfl
   .simp only [AE]
    refine ⟨?_,by simpa using hlen⟩
    congr 1
  case eql=>exact ⟨_,_,by simp only [binOp,Op.stringOp,hl];rfl,by simp only [AE],bc (K:=K) k⟩
  case neq=>exact ⟨_,_,by simp only [binOp,Op.stringOp,hl];rfl,by simp only [AE],bcn (K:=K) k⟩
  all_goals exact k.elim
 .exact k.elim
end
section
variable {D:List Deferred} {P:Program} {T:List (Nat×Ty)} {C:FuncId->List V->St->(AL->St->Prop)->Prop} {I0 I:Mem} {st0 st:St} {w0 w:World} {β:Nat->Option Nat} {env:Env} {a:Act}
variable {o:Oper} {K:V->Env->St->Prop} {Q:AM->Env->St->Prop} {next:Act->World->Prop} {Qc:Exit->Act->World->Prop}
theorem KQ {b:Bool} {c:Value} (h:A8 I β (.bool b) c):c=.bool b:=by have:=h;simpa only [A8,AE] using this
theorem Hs {k:IntKind} {n:Int} {c:Value} (h:A8 I β (.int k n) c):c=.int k n:=by have:=h;simpa only [A8,AE] using this
theorem Uq {s:List UInt8} {c:Value} (h:A8 I β (.str s) c):c=.string ⟨s.toArray⟩/\s.length<Fe:=by have:=h;simpa only [A8,AE] using this
theorem Nr {b off:Nat} {c:Value} (h:A8 I β (.ptr b off) c):c=.pointer (some ⟨b,off,none⟩):=by have:=h;simpa only [A8,AE] using this
theorem Jl {id off:Nat} {c:Value} (h:A8 I β (.Cu id off) c):∃b,β id=some b/\c=.pointer (some ⟨b,off,none⟩):=h
theorem Rm {e:List V} {off:Nat} {c:Value} (h:A8 I β (.Iy e off) c):∃b o,c=.pointer (some ⟨b,o+off,none⟩)/\C6 I b o e:=by have:=h;simpa only [A8,AE] using this
theorem Nq {sz b n cap:Nat} {c:Value} (h:A8 I β (.DM sz b n cap) c):c=.slice (some ⟨b,0,none⟩) n cap/\n<=cap/\n<Fe/\0<sz:=by
 have U:AE I (.DM sz b n cap) c:=h
 simp only [AE] at U
 exact U
theorem GJ {sz:Nat} {es:List (List V)} {own:AF} {c:Value} (h:A8 I β (.slice sz es own) c):∃U cap,c=.slice U es.length cap/\es.length<=cap/\es.length<Fe/\0<sz/\UO I sz es.length cap U own/\
 (match U with|none=>cap=0|some U=>(cap=0\/U.spot=none)/\Co I sz U.block U.off es):=by
 have h':AE I (.slice sz es own) c:=h
 simp only [AE] at h'
 obtain ⟨U,cap,h1,h2,h3,h4,h5,h6⟩:=h'
 refine ⟨U,cap,h1,h2,h3,h4,h5,?_⟩
 cases U<;>exact h6
theorem Rw {x:Operand} (hT:Hf P T) (hK:CJ D I0 st0 w0 β env.BI a o.dst next K) (h:Rel D I0 st0 w0 I β env st a w) (U:o.op=.move x\/o.op=.assign x)
 (k:(env.Bz T o.type x).force λv=>K v env st):o.wp P a w next Qc:=by
 refine AX hK (c:=a.eval x) (w':=w) ?_ h (h.f.Bz hT o.type x) (V.AP.1 k)
 rcases U with U|U<;>simp only [execOp,U]<;>rfl
theorem ZC {c x y:Operand} (hT:Hf P T) (U:CJ D I0 st0 w0 β env.BI a o.dst next K) (h:Rel D I0 st0 w0 I β env st a w) (ho:o.op=.pick c x y)
 (k:match env.eval c with
   | .bool t=>lit t ((env.Bz T o.type x).force λv=>K v env st) ((env.Bz T o.type y).force λv=>K v env st)
   |_=>False):o.wp P a w next Qc:=by
 have hc:=h.f.eval c
 split at k
 .rename_i t he
  rw [he] at hc
  have hc:=KQ hc
  cases t with
  |true=>
   have k:(env.Bz T o.type x).force λv=>K v env st:=k
   refine AX U (c:=a.eval x) (w':=w) ?_ h (h.f.Bz hT o.type x) (V.AP.1 k)
   simp only [execOp,ho,hc];rfl
  |false=>
   have k:(env.Bz T o.type y).force λv=>K v env st:=k
   refine AX U (c:=a.eval y) (w':=w) ?_ h (h.f.Bz hT o.type y) (V.AP.1 k)
   simp only [execOp,ho,hc];rfl
 .exact k.elim
theorem Sd {t:TypeId} {ty:Ty} (hT:Hf P T) (I:Mem) (w:World) (a:Act) (ht:assoc T t=some ty) (ho:o.op=.alloc t):
 ∃vs:List Value,Aj I ty.zero.cells vs/\(execOp a.eval o).run P w=.ok (.value (.pointer (some ⟨w.heap.size,0,none⟩))) (w.alloc (.cells vs.toArray t)):=by
 have hz:∃(i:TypeInfo) (c:Value),P.info? t=some i/\i.zero=some c/\Aj I ty.zero.cells c.cells.toList:=by
  have hty:=hT t ty ht
  cases ty with
  |struct offs z=>
   obtain ⟨i,fields,zs,U,h2,h3,h4,h5,_⟩:=hty
   exact ⟨i,_,U,h4,Aj.mono (Mem.empty_le I) _ _ h5⟩
  |arr offs z=>
   obtain ⟨i,n,e,j,zs,U,h2,h3,h4,h5,_⟩:=hty
   exact ⟨i,_,U,h4,Aj.mono (Mem.empty_le I) _ _ h5⟩
  |sc z=>
   obtain ⟨i,d,c,U,h2,h3,h4,h5,h6,h7,h8,h9,_⟩:=hty
   exact ⟨i,c,U,h5,E5 (AE.mono (Mem.empty_le I) _ _ h6) h8⟩
  |slice e sz b=>
   obtain ⟨i,j,c,U,h2,h3,h4,h5,h6,h7,h8,_⟩:=hty
   exact ⟨i,_,U,h4,E5 (J0 h8 _ (.inl rfl)) rfl⟩
 obtain ⟨i,c,U,h2,h3⟩:=hz
 refine ⟨_,h3,?_⟩
 simp only [execOp,ho,Instr.alloc,Sem.run_bind,EO U h2,Result.andThen_ok,newVar,newRow,run_newObj,Sem.run_pure,World.alloc_eq,Array.toArray_toList]
theorem ZZ {t:TypeId} {x:Operand} (w:World) (a:Act) (U:o.op=.box t x):
 (execOp a.eval o).run P w=.ok (.value (.pointer (some ⟨w.heap.size,0,none⟩))) (w.alloc (.cells (a.eval x).cells.toList.toArray t)):=by
 simp only [execOp,U,Instr.box,Sem.run_bind,Result.andThen_ok,newVar,newRow,run_newObj,Sem.run_pure,World.alloc_eq,Array.toArray_toList]
theorem XA {t:TypeId} (hT:Hf P T) (hK:CJ D I0 st0 w0 β env.BI a o.dst next K) (h:Rel D I0 st0 w0 I β env st a w) (ho:o.op=.alloc t)
 (k:match assoc T t with|some ty=>N4 env st o.dst ty.zero.cells K|none=>False):o.wp P a w next Qc:=by
 split at k
 .rename_i ty ht
  obtain ⟨vs,U,hr⟩:=Sd (P:=P) hT I w a ht ho
  unfold Oper.wp
  rw [hr]
  exact M9 hK h U t k
 .exact k.elim
theorem ey {t:TypeId} {x:Operand} (hT:Hf P T) (hK:CJ D I0 st0 w0 β env.BI a o.dst next K) (h:Rel D I0 st0 w0 I β env st a w) (ho:o.op=.box t x)
 (k:(env.Bz T t x).force λv=>D3 v.known (N4 env st o.dst v.cells K)):o.wp P a w next Qc:=by
 obtain ⟨U,k⟩:=At.1 (V.AP.1 k)
 have hv:=(h.f.Bz hT t x).rep (FX U)
 unfold Oper.wp
 rw [ZZ w a ho]
 exact M9 hK h (E5 hv U) t k
theorem Jc {w:World} {b:Nat} {vs:List Value} {ty:TypeId} (hb:w.heap[b]? =some (.cells vs.toArray ty (0,0))) {j:Nat} {v:Value} (U:vs[j]? =some v):w.cell? ⟨b,j,none⟩=some v:=by
 simp only [World.cell?,hb]
 simpa using U
theorem Mt:∀{l:List V} {b o:Nat},CH I st w->C6 I b o l->∃vs,Aj I l vs/\∀j v,vs[j]? =some v->w.cell? ⟨b,o+j,none⟩=some v
 |[],b,o,U,k=>⟨[],by simp only [Aj],λj v e=>by simp at e⟩
 |u::r,b,o,U,k=>by
  simp only [C6] at k
  obtain ⟨⟨c,h1,h2⟩,k2⟩:=k
  obtain ⟨vs,h3,h4⟩:=Mt U k2
  refine ⟨c::vs,by simp only [Aj];exact ⟨c,vs,rfl,h2,h3⟩,λj v e=>?_⟩
  cases j with
  |zero=>simp at e;subst e;exact U.cell _ _ _ h1
  |succ j=>
   simp at e
   rw [show o+(j+1)=o+1+j by omega]
   exact h4 j v e
theorem ZA {t:TypeId} {x:Operand} (hT:Hf P T) (hK:CJ D I0 st0 w0 β env.BI a o.dst next K) (h:Rel D I0 st0 w0 I β env st a w) (ho:o.op=.load t x)
 (k:match env.eval x with
 | .Cu id off=>match assoc env.boxes id with
   |some cs=>DD cs off (assoc T t) (λv=>K v env st)
   |none=>False
 | .ptr b off=>∃cs,st.box b=some cs/\DD cs off (assoc T t) (λv=>K v env st)
 | .Iy e off=>DD e off (assoc T t) (λv=>K v env st)
 |_=>False):o.wp P a w next Qc:=by
 have U:=h.f.eval x
 have fin:∀{ad:Addr} {c:Value} {v:V},a.eval x=.pointer (some ad)->(loadVar t ad).run P w=.ok c w->AE I v c->K v env st->o.wp P a w next Qc:=by
  intro ad c v e1 e2 e3 e4
  refine AX hK (c:=c) (w':=w) ?_ h (A8.of e3) e4
  simp only [execOp,ho,Instr.loadAt,e1,Instr.sureAddr,Sem.run_bind,Sem.run_pure,Result.andThen_ok,e2]
 split at k
 .rename_i id off he
  rw [he] at U
  obtain ⟨b,hb,U⟩:=Jl U
  split at k
  .rename_i cs hcs
   obtain ⟨b',h1,h2⟩:=h.f.box id cs hcs
   rw [hb] at h1
   injection h1 with h1
   subst h1
   obtain ⟨vs,ty,h2,h3⟩:=h2.cells (LP k)
   obtain ⟨v,c,g1,g2,g3⟩:=EH (b:=b) (o:=0) hT h3 (λj v e=>by simpa using Jc h2 e) k
   rw [Nat.zero_add] at g1
   exact fin U g1 g2 g3
  .exact k.elim
 .rename_i b off he
  rw [he] at U
  have U:=Nr U
  obtain ⟨cs,hcs,k⟩:=k
  obtain ⟨vs,ty,h2,h3⟩:=h.s.box b cs hcs
  obtain ⟨v,c,g1,g2,g3⟩:=EH (b:=b) (o:=0) hT h3 (λj v e=>by simpa using Jc h2 e) k
  rw [Nat.zero_add] at g1
  exact fin U g1 g2 g3
 .rename_i e off he
  rw [he] at U
  obtain ⟨b,o',U,hc⟩:=Rm U
  obtain ⟨vs,h3,h4⟩:=Mt h.s hc
  obtain ⟨v,c,g1,g2,g3⟩:=EH hT h3 h4 k
  exact fin U g1 g2 g3
 .exact k.elim
theorem oU {t:TypeId} {ty:Ty} (h:O6 P t ty):∃i,P.info? t=some i/\i.size=ty.zero.cells.length:=by
 cases ty with
 |struct offs z=>obtain ⟨i,fields,zs,U,h2,h3,_⟩:=h;exact ⟨i,U,h3⟩
 |arr offs z=>obtain ⟨i,n,e,j,zs,U,h2,h3,_⟩:=h;exact ⟨i,U,h3⟩
 |sc z=>obtain ⟨i,d,c,U,h2,h3,h4,h5,h6,h7,h8,h9,_⟩:=h;exact ⟨i,U,by rw [h4];show 1=z.cells.length;rw [h9];rfl⟩
 |slice e sz b=>obtain ⟨i,j,c,U,h2,h3,_⟩:=h;exact ⟨i,U,h3⟩
theorem LX {t:TypeId} {ty:Ty} (hty:O6 P t ty) {cs:List V} {vs:List Value} {b off:Nat} {v:V} {c:Value} {ety:TypeId} {K:List V->Prop}
 (hb:w.heap[b]? =some (.cells vs.toArray ety (0,0))) (hk:Aj I cs vs) (hv:AE I v c) (hkn:v.known=true) (hsz:v.cells.length=ty.zero.cells.length) (k:E7 cs off v.cells K):
 ∃cs' us,(storeVar t ⟨b,off,none⟩ c).run P w=.ok () (w.setRow b us.toArray)/\Aj I cs' us/\K cs':=by
 unfold E7 at k
 obtain ⟨_,k⟩:=At.1 k
 obtain ⟨h1,k⟩:=At.1 k
 obtain ⟨h2,k⟩:=At.1 k
 have k:=BD.1 k
 have h1:=Nat.le_of_ble_eq_true h1
 have hc:=E5 hv hkn
 have U:=Aj.length hc
 have hlv:=Aj.length hk
 obtain ⟨i,hi,hs⟩:=oU hty
 refine ⟨_,_,?_,Aj.append (Aj.append (Aj.take off hk) hc) (Aj.drop (off+v.cells.length) hk),k⟩
 have hrun:=run_storeCells_at P b off ety c.cells.toList 0 vs.toArray w hb (by simp;simp at U;omega) (Zv hc h2)
 have hcs:c.cells.size=i.size:=by rw [hs,<-hsz,U,Array.length_toList]
 simp only [storeVar,Sem.run_bind,CG hi,Result.andThen_ok,hcs,ne_eq,not_true_eq_false,if_false,Sem.run_pure,hrun,Nat.add_zero]
 congr 4
 rw [U]
theorem OW {t:TypeId} {x y:Operand} (hT:Hf P T) (hK:CJ D I0 st0 w0 β env.BI a o.dst next K) (h:Rel D I0 st0 w0 I β env st a w) (ho:o.op=.store t x y)
 (k:match env.eval x with
 | .Cu id off=>match assoc env.boxes id,assoc T t with
   |some cs,some ty=>match env with
    |⟨ts,bs,n,sz,gl⟩=>(Env.Bz T ⟨ts,bs,n,sz,gl⟩ t y).force λv=>D3 (v.known&&Nat.beq v.cells.length ty.zero.cells.length)
     (E7 cs off v.cells λcs'=>K .Cj ⟨ts,(id,cs')::bs,n,sz,gl⟩ st)
   |_,_=>False
 | .ptr b off=>match assoc T t with
   |some ty=>∃cs,st.box b=some cs/\(env.Bz T t y).force λv=>D3 (v.known&&Nat.beq v.cells.length ty.zero.cells.length)
     (E7 cs off v.cells λcs'=>K .Cj env (st.Ab b cs'))
   |none=>False
 |_=>False):o.wp P a w next Qc:=by
 have hx:=h.f.eval x
 have hy:=h.f.Bz hT t y
 have fin:∀{ad:Addr} {w':World},a.eval x=.pointer (some ad)->(storeVar t ad (a.eval y)).run P w=.ok () w'->(execOp a.eval o).run P w=.ok .skip w':=by
  intro ad w' e1 e2
  simp only [execOp,ho,Instr.storeAt,e1,Instr.sureAddr,Sem.run_bind,Sem.run_pure,Result.andThen_ok,e2]
 split at k
 .rename_i id off he
  rw [he] at hx
  obtain ⟨b,hb,hx⟩:=Jl hx
  split at k
  .rename_i cs ty hcs hty
   obtain ⟨b',h1,h2⟩:=h.f.box id cs hcs
   rw [hb] at h1
   injection h1 with h1
   subst h1
   have k:=V.AP.1 k
   obtain ⟨U,k⟩:=At.1 k
   obtain ⟨vs,ety,h2,h3⟩:=h2.cells (UE k)
   simp only [Bool.and_eq_true] at U
   obtain ⟨cs',us,g1,g2,g3⟩:=LX (hT t ty hty) h2 h3 (hy.rep (FX U.1)) U.1 (Nat.eq_of_beq_eq_true U.2) k
   exact bb hK (fin hx g1) (h.ZF (cs:=cs) hb h2 g2) g3
  .exact k.elim
 .rename_i b off he
  rw [he] at hx
  have hx:=Nr hx
  split at k
  .rename_i ty hty
   obtain ⟨cs,hcs,k⟩:=k
   obtain ⟨vs,ety,h2,h3⟩:=h.s.box b cs hcs
   have k:=V.AP.1 k
   obtain ⟨U,k⟩:=At.1 k
   simp only [Bool.and_eq_true] at U
   obtain ⟨cs',us,g1,g2,g3⟩:=LX (hT t ty hty) h2 h3 (hy.rep (FX U.1)) U.1 (Nat.eq_of_beq_eq_true U.2) k
   exact bb hK (fin hx g1) (h.OX hcs h2 g2) g3
  .exact k.elim
 .exact k.elim
theorem Ry {x:Operand} (hK:CJ D I0 st0 w0 β env.BI a o.dst next K) (h:Rel D I0 st0 w0 I β env st a w) (ho:o.op=.nilCheck x)
 (k:match env.eval x with
 | .Cu id off=>K (.Cu id off) env st
 | .ptr b off=>K (.ptr b off) env st
 | .Iy e off=>K (.Iy e off) env st
 |_=>False):o.wp P a w next Qc:=by
 have hx:=h.f.eval x
 split at k
 .rename_i id off he
  rw [he] at hx
  obtain ⟨b,hb,U⟩:=Jl hx
  exact AX hK (c:=a.eval x) (w':=w) (by simp only [execOp,ho,U];rfl) h hx k
 .rename_i b off he
  rw [he] at hx
  have U:=Nr hx
  exact AX hK (c:=a.eval x) (w':=w) (by simp only [execOp,ho,U];rfl) h hx k
 .rename_i e off he
  rw [he] at hx
  obtain ⟨b,o',U,_⟩:=Rm hx
  exact AX hK (c:=a.eval x) (w':=w) (by simp only [execOp,ho,U];rfl) h hx k
 .exact k.elim
theorem Pb {t:TypeId} {x:Operand} {f:Nat} (hT:Hf P T) (hK:CJ D I0 st0 w0 β env.BI a o.dst next K) (h:Rel D I0 st0 w0 I β env st a w) (ho:o.op=.fieldAddr t x f)
 (k:match assoc T t,env.eval x with
 |some (.struct U _),.Cu id off=>match U[f]? with|some (o,s)=>D3 (Nat.blt 0 s) (K (.Cu id (off+o)) env st)|none=>False
 |some (.struct U _),.ptr b off=>match U[f]? with|some (o,s)=>D3 (Nat.blt 0 s) (K (.ptr b (off+o)) env st)|none=>False
 |some (.struct U _),.Iy e off=>match U[f]? with|some (o,s)=>D3 (Nat.blt 0 s) (K (.Iy e (off+o)) env st)|none=>False
 |_,_=>False):o.wp P a w next Qc:=by
 have hx:=h.f.eval x
 have fin:∀{U:List (Nat×Nat)} {z:List V} {b off o' s:Nat},assoc T t=some (.struct U z)->U[f]? =some (o',s)->0<s->a.eval x=.pointer (some ⟨b,off,none⟩)->
  (execOp a.eval o).run P w=.ok (.value (.pointer (some ⟨b,off+o',none⟩))) w:=by
  intro U z b off o' s ht hf hs e
  obtain ⟨i,fields,zs,h1,h2,h3,h4,h5,h6,h7,_⟩:=hT t _ ht
  obtain ⟨fl,j,g1,g2,g3,g4⟩:=h7 f o' s hf
  have hne:¬j.size=0:=AC
  simp only [execOp,ho,Instr.fieldAt,Sem.run_bind,AD h2,Result.andThen_ok,g1,e,Instr.sureAddr,Sem.run_pure,fieldPlace,CG g3,Sem.run_ite]
  rw [if_neg hne]
  simp only [Result.andThen_ok,Dz,g2]
 split at k
 .rename_i U z id off ht he
  rw [he] at hx
  obtain ⟨b,hb,hx⟩:=Jl hx
  split at k
  .rename_i o' s hf
   obtain ⟨hs,k⟩:=At.1 k
   exact AX hK (fin ht hf (by simpa [Nat.blt_eq] using hs) hx) h (show A8 I β (.Cu id (off+o')) _ from ⟨b,hb,rfl⟩) k
  .exact k.elim
 .rename_i U z b off ht he
  rw [he] at hx
  have hx:=Nr hx
  split at k
  .rename_i o' s hf
   obtain ⟨hs,k⟩:=At.1 k
   exact AX hK (fin ht hf (by simpa [Nat.blt_eq] using hs) hx) h (A8.of (by simp only [AE])) k
  .exact k.elim
 .rename_i U z e off ht he
  rw [he] at hx
  obtain ⟨b,o1,hx,hc⟩:=Rm hx
  split at k
  .rename_i o' s hf
   obtain ⟨hs,k⟩:=At.1 k
   exact AX hK (fin ht hf (by simpa [Nat.blt_eq] using hs) hx) h (A8.of (by simp only [AE];exact ⟨b,o1,by rw [Nat.add_assoc],hc⟩)) k
  .exact k.elim
 .exact k.elim
end
section
variable {D:List Deferred} {P:Program} {T:List (Nat×Ty)} {C:FuncId->List V->St->(AL->St->Prop)->Prop} {I0 I:Mem} {st0 st:St} {w0 w:World} {β:Nat->Option Nat} {env:Env} {a:Act}
variable {o:Oper} {K:V->Env->St->Prop} {Q:AM->Env->St->Prop} {next:Act->World->Prop} {Qc:Exit->Act->World->Prop}
theorem ZD {op:UnOp} {t:TypeId} {x:Operand} (hK:CJ D I0 st0 w0 β env.BI a o.dst next K) (h:Rel D I0 st0 w0 I β env st a w)
 (k:match op,env.eval x with
 | .not,.bool b=>lit b (K (.bool false) env st) (K (.bool true) env st)
 | .neg,.int k n=>∃r,r=k.wrap (0 - n)/\K (.int k r) env st
 |_,_=>False) (ho:o.op=.unOp op t x):o.wp P a w next Qc:=by
 have U:=h.f.eval x
 split at k
 .rename_i b he
  rw [he] at U
  have U:=KQ U
  refine AX hK (c:=.bool (!b)) (w':=w) (v:=.bool (!b)) (by simp only [execOp,ho,U];rfl) h (A8.of (by simp only [AE])) ?_
  cases b<;>exact k
 .rename_i kd n he
  rw [he] at U
  have U:=Hs U
  obtain ⟨r,rfl,k⟩:=k
  exact AX hK (c:=.int kd (kd.wrap (0 - n))) (w':=w) (by simp only [execOp,ho,U];rfl) h (A8.of (by simp only [AE])) k
 .exact k.elim
theorem Ru {f:FuncId} {first cap:Array Operand} (hK:CJ D I0 st0 w0 β env.BI a o.dst next K) (h:Rel D I0 st0 w0 I β env st a w) (ho:o.op=.makeFunc (.func f) first cap)
 (k:UM env first.toList λx=>UM env cap.toList λc=>K (.func f x c) env st):o.wp P a w next Qc:=by
 obtain ⟨v1,U,k⟩:=GA h.f k
 obtain ⟨v2,h2,k⟩:=GA h.f k
 refine AX hK (c:=.func (.func f) (first.map a.eval) (cap.map a.eval)) (w':=w) (by simp only [execOp,ho];rfl) h (A8.of ?_) k
 simp only [AE]
 exact ⟨first.toList.map a.eval,cap.toList.map a.eval,by congr 1<;>(apply Array.ext';simp),U,h2⟩
theorem R8 {x:Operand} {i:Nat} (hK:CJ D I0 st0 w0 β env.BI a o.dst next K) (h:Rel D I0 st0 w0 I β env st a w) (ho:o.op=.extract x i)
 (k:match env.eval x with
 | .Bh vs=>match vs[i]? with|some v=>v.force λv=>K v env st|none=>False
 |_=>False):o.wp P a w next Qc:=by
 have hx:=h.f.eval x
 split at k
 .rename_i vs he
  rw [he] at hx
  have U:AE I (.Bh vs) (a.eval x):=hx
  simp only [AE] at U
  obtain ⟨cs,e,hl⟩:=U
  split at k
  .rename_i v hv
   obtain ⟨c,h1,h2⟩:=Aj.get hl hv
   refine AX hK (c:=c) (w':=w) ?_ h (A8.of h2) (V.AP.1 k)
   simp only [execOp,ho,e,Instr.extract]
   have:cs.toArray[i]? =some c:=by simpa using h1
   rw [this];rfl
  .exact k.elim
 .exact k.elim
theorem XC {t:TypeId} {x:Operand} {f:Nat} (hT:Hf P T) (hK:CJ D I0 st0 w0 β env.BI a o.dst next K) (h:Rel D I0 st0 w0 I β env st a w) (ho:o.op=.field t x f)
 (k:match assoc T t,env.eval x with
 |some (.struct U _),.agg cs=>match U[f]? with
  |some (o,1)=>match cs[o]? with|some v=>v.force λv=>K v env st|none=>False
  |_=>False
 |_,_=>False):o.wp P a w next Qc:=by
 have hx:=h.f.eval x
 split at k
 .rename_i U z cs ht he
  rw [he] at hx
  have hx':AE I (.agg cs) (a.eval x):=hx
  simp only [AE] at hx'
  obtain ⟨vs,e,hl⟩:=hx'
  split at k
  .rename_i o' hf
   split at k
   .rename_i v hv
    obtain ⟨c,h1,h2⟩:=Aj.get hl hv
    obtain ⟨i,fields,zs,g1,g2,g3,g4,g5,g6,g7,g8,g9⟩:=hT t _ ht
    obtain ⟨fl,d,q1,q2,q3,q4⟩:=g9 f o' hf
    refine AX hK (c:=c) (w':=w) ?_ h (A8.of h2) (V.AP.1 k)
    have hc:vs.toArray[o']? =some c:=by simpa using h1
    simp only [execOp,ho,e,Instr.field,Sem.run_bind,AD g2,Result.andThen_ok,q1,asAgg,Sem.run_pure,q2]
    unfold part
    simp only [Sem.run_bind,Oh q3,q4,Result.andThen_ok,hc,Bool.false_eq_true,if_false]
    rfl
   .exact k.elim
  .exact k.elim
 .exact k.elim
theorem Pc {t:TypeId} {x i:Operand} (hT:Hf P T) (hK:CJ D I0 st0 w0 β env.BI a o.dst next K) (h:Rel D I0 st0 w0 I β env st a w) (ho:o.op=.indexAddr t x i)
 (k:match assoc T t,env.eval x,env.eval i with
 |some (.slice _ U _),.slice sz es _,.int _ n=>D3 (Nat.beq U sz) (0<=n/\∃e,es[n.toNat]? =some e/\K (.Iy e 0) env st)
 |some (.slice _ U _),.DM sz b m _,.int _ n=>D3 (Nat.beq U sz) ((0<=n/\n<(m:Int))/\∀k,k=n.toNat*sz->K (.ptr b k) env st)
 |_,_,_=>False):o.wp P a w next Qc:=by
 have hx:=h.f.eval x
 have hi:=h.f.eval i
 split at k
 .rename_i el U by' sz es own kd n ht hex hei
  rw [hex] at hx
  rw [hei] at hi
  have hi:=Hs hi
  obtain ⟨hsz,h0,e,he,k1⟩:=At.1 k
  clear k
  have hsz:=Nat.eq_of_beq_eq_true hsz
  subst hsz
  obtain ⟨ad,cap,e1,e2,e3,e4,e5,e6⟩:=GJ hx
  obtain ⟨i0,j,c,h1,h2,h3,h4,h5,h6,h7,h8,_⟩:=hT t _ ht
  have hlt:n.toNat<es.length:=by
   rcases Nat.lt_or_ge n.toNat es.length with h|h
   .exact h
   .rw [List.getElem?_eq_none h] at he;cases he
  cases ad with
  |none=>simp only at e6;omega
  |some ad=>
   obtain ⟨b,off,spot⟩:=ad
   simp only at e6
   obtain ⟨e0,e6⟩:=e6
   obtain rfl:spot=none:=e0.resolve_left AC
   obtain ⟨g1,g2⟩:=Co.get e6 he
   refine AX hK (c:=.pointer (some ⟨b,off+n.toNat*U,none⟩)) (w':=w) (v:=.Iy e 0) ?_ h (A8.of (by simp only [AE];exact ⟨b,_,rfl,g2⟩)) k1
   have hcond:(0<=n/\n<(es.length:Int)):=⟨h0,AC⟩
   simp only [execOp,ho,Instr.indexAt,hi,e1,asIntOf,Sem.run_bind,Sem.run_pure,Result.andThen_ok,AD h2]
   rw [if_pos hcond]
   simp only [Sem.run_bind,CG h5,h6,Result.andThen_ok,Sem.run_pure,Dz]
 .rename_i el U by' sz b m cap kd n ht hex hei
  rw [hex] at hx
  rw [hei] at hi
  have hi:=Hs hi
  obtain ⟨hsz,hcond,k1⟩:=At.1 k
  clear k
  have hsz:=Nat.eq_of_beq_eq_true hsz
  subst hsz
  obtain ⟨e1,e2,e3,e4⟩:=Nq hx
  obtain ⟨i0,j,c,h1,h2,h3,h4,h5,h6,h7,h8,_⟩:=hT t _ ht
  refine AX hK (c:=.pointer (some ⟨b,n.toNat*U,none⟩)) (w':=w) (v:=.ptr b (n.toNat*U)) ?_ h (A8.of (by simp only [AE])) (k1 _ rfl)
  simp only [execOp,ho,Instr.indexAt,hi,e1,asIntOf,Sem.run_bind,Sem.run_pure,Result.andThen_ok,AD h2]
  rw [if_pos hcond]
  simp only [Sem.run_bind,CG h5,h6,Result.andThen_ok,Sem.run_pure,Dz,Nat.zero_add]
 .exact k.elim
theorem XD {t:TypeId} {x i:Operand} (hT:Hf P T) (hK:CJ D I0 st0 w0 β env.BI a o.dst next K) (h:Rel D I0 st0 w0 I β env st a w) (ho:o.op=.index t x i)
 (k:match assoc T t,env.eval x,env.eval i with
 |some (.sc (.str _)),.str s,.int _ n=>0<=n/\∃e,s[n.toNat]? =some e/\K (.int .u8 e.toNat) env st
 |_,_,_=>False):o.wp P a w next Qc:=by
 have hx:=h.f.eval x
 have hi:=h.f.eval i
 split at k
 .rename_i z s kd n ht hex hei
  rw [hex] at hx
  rw [hei] at hi
  have hi:=Hs hi
  obtain ⟨hx,hlen⟩:=Uq hx
  obtain ⟨h0,e,he,k⟩:=k
  obtain ⟨i0,d,c,h1,h2,h3,h4,h5,h6,h7,h8,h9,U⟩:=hT t _ ht
  simp only at U
  subst U
  refine AX hK (c:=.int .u8 e.toNat) (w':=w) (v:=.int .u8 e.toNat) ?_ h (A8.of (by simp only [AE])) k
  have hg:(⟨s.toArray⟩:ByteArray)[n.toNat]? =some e:=by
   have hlt:n.toNat<s.length:=by
    rcases Nat.lt_or_ge n.toNat s.length with h|h
    .exact h
    .rw [List.getElem?_eq_none h] at he;cases he
   rw [getElem?_pos (⟨s.toArray⟩:ByteArray) n.toNat (by show n.toNat<s.toArray.size;simpa using hlt)]
   show some (s.toArray[n.toNat])=some e
   rw [List.getElem?_eq_getElem hlt] at he
   simpa using he
  simp only [execOp,ho,Instr.index,hi,hx,asIntOf,Sem.run_bind,Sem.run_pure,Result.andThen_ok,AD h2]
  rw [if_pos h0,hg]
  rfl
 .exact k.elim
theorem Jp {n:Int} {y:Nat} {kd:IntKind} {code:BoundsCode} (h:0<=n/\n<=(y:Int)):(Instr.sliceBound (.int kd n) y code).run P w=.ok n.toNat w:=by
 simp only [Instr.sliceBound,asIntOf,Sem.run_bind,Sem.run_pure,Result.andThen_ok]
 rw [if_pos h];rfl
theorem NP {len cap:Nat} {lo hi:Option Operand} {kl kh:IntKind} {l h:Int} (hF:Rel D I0 st0 w0 I β env st a w) (isS:Bool)
 (U:(lo.map env.eval).getD (.int .i64 0)=.int kl l) (hh:(hi.map env.eval).getD (.int .i64 len)=.int kh h)
 (h0:0<=l) (h1:l<=h) (h2:h<=(len:Int)) (h3:len<=cap):
 (Instr.sliceBounds isS len cap (lo.map a.eval) (hi.map a.eval) none).run P w=.ok (l.toNat,h.toNat,cap) w:=by
 have hhi:∀x,hi=some x->a.eval x=.int kh h:=λx e=>by
  subst e
  simp only [Option.map_some,Option.getD_some] at hh
  have:=hF.f.eval x
  rw [hh] at this
  exact Hs this
 have hlo:∀x,lo=some x->a.eval x=.int kl l:=λx e=>by
  subst e
  simp only [Option.map_some,Option.getD_some] at U
  have:=hF.f.eval x
  rw [U] at this
  exact Hs this
 have b1:∀code:BoundsCode,(Instr.sliceBound (.int kh h) cap code).run P w=.ok h.toNat w:=λcode=>Jp ⟨AC,AC⟩
 have b2:∀code:BoundsCode,(Instr.sliceBound (.int kl l) h.toNat code).run P w=.ok l.toNat w:=λcode=>Jp ⟨AC,AC⟩
 cases hi with
 |none=>
  simp only [Option.map_none,Option.getD_none,V.int.injEq] at hh
  obtain ⟨_,rfl⟩:=hh
  simp only [Int.toNat_natCast] at b2 |-
  cases lo with
  |none=>
   simp only [Option.map_none,Option.getD_none,V.int.injEq] at U
   obtain ⟨_,rfl⟩:=U
   simp [Instr.sliceBounds]
  |some x=>
   simp only [Instr.sliceBounds,Option.map_some,Option.map_none,hlo x rfl,Sem.run_bind,Sem.run_pure,Result.andThen_ok,b2]
 |some y=>
  cases lo with
  |none=>
   simp only [Option.map_none,Option.getD_none,V.int.injEq] at U
   obtain ⟨_,rfl⟩:=U
   simp only [Instr.sliceBounds,Option.map_some,Option.map_none,hhi y rfl,Sem.run_bind,Sem.run_pure,Result.andThen_ok,b1]
   rfl
  |some x=>
   simp only [Instr.sliceBounds,Option.map_some,hhi y rfl,hlo x rfl,Sem.run_bind,Sem.run_pure,Result.andThen_ok,b1,b2]
theorem XG {t:TypeId} {x:Operand} {lo hi:Option Operand} (hT:Hf P T) (hK:CJ D I0 st0 w0 β env.BI a o.dst next K) (h:Rel D I0 st0 w0 I β env st a w) (ho:o.op=.slice t x lo hi none)
 (k:match assoc T t,env.eval x with
 |some (.slice _ sz' _),.slice sz es _=>
  match (lo.map env.eval).getD (.int .i64 0),(hi.map env.eval).getD (.int .i64 es.length) with
  | .int _ l,.int _ h=>D3 (Nat.beq sz' sz) ((0<=l/\l<=h/\h<=es.length)/\∀es',es'=(es.take h.toNat).drop l.toNat->K (.slice sz es' .any) env st)
  |_,_=>False
 |some (.sc (.str _)),.str s=>
  match (lo.map env.eval).getD (.int .i64 0),(hi.map env.eval).getD (.int .i64 s.length) with
  | .int _ l,.int _ h=>(0<=l/\l<=h/\h<=s.length)/\∀s',s'=(s.take h.toNat).drop l.toNat->K (.str s') env st
  |_,_=>False
 |some (.slice _ sz' _),.DM sz b n cap=>
  match (lo.map env.eval).getD (.int .i64 0),(hi.map env.eval).getD (.int .i64 n) with
  | .int _ l,.int _ h=>D3 (Nat.beq sz' sz) ((l=0/\0<=h/\h<=n)/\∀k,k=h.toNat->K (.DM sz b k cap) env st)
  |_,_=>False
 |_,_=>False):o.wp P a w next Qc:=by
 have hx:=h.f.eval x
 split at k
 .rename_i el sz' by' sz es own ht hex
  rw [hex] at hx
  split at k
  .rename_i kl l kh hh hel heh
   obtain ⟨U,⟨h0,h1,h2⟩,k1⟩:=At.1 k
   clear k
   have k1:=k1 _ rfl
   have U:=Nat.eq_of_beq_eq_true U
   subst U
   obtain ⟨ad,cap,e1,e2,e3,e4,e5,e6⟩:=GJ hx
   obtain ⟨i0,j,c,g1,g2,g3,g4,g5,g6,g7,g8,_⟩:=hT t _ ht
   have hb:=NP (P:=P) (cap:=cap) h true hel heh h0 h1 h2 e2
   have hlen:((es.take hh.toNat).drop l.toNat).length=hh.toNat - l.toNat:=cb
   refine AX hK (c:=.slice (if cap=l.toNat then ad else ad.map (·.add (l.toNat*sz'))) (hh.toNat - l.toNat) (cap - l.toNat)) (w':=w) ?_ h (A8.of ?_) k1
   .have hu:(underlying t).run P w=.ok (.slice el) w:=AD g2
    simp only [execOp,ho,Instr.sliceAt,Option.map_none,Sem.run_bind,hu,Result.andThen_ok,Instr.slice,e1,hb,CG g5,g6,Sem.run_pure]
   .simp only [AE]
    refine ⟨_,cap - l.toNat,by rw [hlen],by rw [hlen];omega,by rw [hlen];omega,e4,trivial,?_⟩
    cases ad with
    |none=>simp only at e6;subst e6;simp
    |some ad=>
     simp only at e6
     obtain ⟨s1,s2⟩:=e6
     split
     .rename_i hc
      split at hc
      .cases hc
      .cases hc
     .rename_i ad' hc
      split at hc
      .rename_i hcap
       injection hc with hc
       subst hc
       refine ⟨.inl AC,?_⟩
       have:(es.take hh.toNat).drop l.toNat=[]:=List.eq_nil_of_length_eq_zero (by rw [hlen];omega)
       rw [this];simp only [Co]
      .simp only [Option.map_some,Option.some.injEq] at hc
       subst hc
       rename_i hne
       obtain ⟨b,off,spot⟩:=ad
       obtain rfl:spot=none:=s1.resolve_left AC
       rw [Dz]
       exact ⟨.inr rfl,Co.drop _ (Co.take _ s2)⟩
  .exact k.elim
 .rename_i z s ht hex
  rw [hex] at hx
  obtain ⟨hx,hlim⟩:=Uq hx
  split at k
  .rename_i kl l kh hh hel heh
   obtain ⟨⟨h0,h1,h2⟩,k⟩:=k
   have k:=k _ rfl
   obtain ⟨i0,d,c,g1,g2,g3,g4,g5,g6,g7,g8,g9,g10⟩:=hT t _ ht
   simp only at g10
   subst g10
   have hb:=NP (P:=P) (cap:=s.length) h false hel heh h0 h1 h2 (Nat.le_refl _)
   refine AX hK (c:=.string ⟨((s.take hh.toNat).drop l.toNat).toArray⟩) (w':=w) ?_ h (A8.of (by simp only [AE];refine ⟨trivial,?_⟩;simp;omega)) k
   have hu:(underlying t).run P w=.ok .string w:=AD g2
   have hs:(⟨s.toArray⟩:ByteArray).size=s.length:=by show s.toArray.size=_;simp
   simp only [execOp,ho,Instr.sliceAt,Option.map_none,Sem.run_bind,hu,Result.andThen_ok,Instr.slice,hx,Option.isSome_none,Bool.false_eq_true,if_false,Sem.run_pure,hs,hb]
   congr 3
   apply ByteArray.ext
   apply Array.ext'
   simp [ByteArray.data_extract,List.drop_take]
  .exact k.elim
 .rename_i el sz' by' sz b n cap ht hex
  rw [hex] at hx
  split at k
  .rename_i kl l kh hh hel heh
   obtain ⟨U,⟨h0,h1,h2⟩,k1⟩:=At.1 k
   clear k
   have k1:=k1 _ rfl
   have U:=Nat.eq_of_beq_eq_true U
   subst U
   obtain ⟨e1,e2,e3,e4⟩:=Nq hx
   obtain ⟨i0,j,c,g1,g2,g3,g4,g5,g6,g7,g8,_⟩:=hT t _ ht
   have hb:=NP (P:=P) (cap:=cap) h true hel heh AC AC h2 e2
   subst h0
   refine AX hK (c:=.slice (some ⟨b,0,none⟩) hh.toNat cap) (w':=w) ?_ h (A8.of ?_) k1
   .have hu:(underlying t).run P w=.ok (.slice el) w:=AD g2
    simp only [execOp,ho,Instr.sliceAt,Option.map_none,Sem.run_bind,hu,Result.andThen_ok,Instr.slice,e1,hb,CG g5,g6,Sem.run_pure]
    have ha:(⟨b,0,none⟩:Addr).add 0=⟨b,0,none⟩:=by rw [Dz]
    simp only [Int.toNat_zero,Nat.zero_mul,Nat.sub_zero,Option.map_some,ha]
    split<;>rfl
   .simp only [AE]
    exact ⟨trivial,AC,AC,e4⟩
  .exact k.elim
 .exact k.elim
end
section
variable {D:List Deferred} {P:Program} {T:List (Nat×Ty)} {C:FuncId->List V->St->(AL->St->Prop)->Prop} {I0 I:Mem} {st0 st:St} {w0 w:World} {β:Nat->Option Nat} {env:Env} {a:Act}
variable {o:Oper} {K:V->Env->St->Prop} {Q:AM->Env->St->Prop} {next:Act->World->Prop} {Qc:Exit->Act->World->Prop}
theorem NY:∀(vs:List Value) (k off:Nat) (cs:Array Value),off+k+vs.length<=cs.size->
 ((vs.zipIdx k).foldl (λcs (p:Value×Nat)=>cs.setIfInBounds (off+p.2) p.1) cs).toList=cs.toList.take (off+k)++vs++cs.toList.drop (off+k+vs.length)
 |[],k,off,cs,h=>by simp
 |v::vs,k,off,cs,h=>by
  simp only [List.length_cons] at h
  rw [List.zipIdx_cons,List.foldl_cons,NY vs (k+1) off _ cb]
  have U:off+k<cs.toList.length:=cb
  simp only [Array.toList_setIfInBounds,List.length_cons]
  rw [show off+(k+1)=off+k+1 by omega,List.take_set,List.drop_set_of_lt AC]
  rw [show off+k+1+vs.length=off+k+(vs.length+1) by omega]
  rw [List.take_succ_eq_append_getElem U,List.set_append_right _ _ cb]
  have hm:min (off+k) cs.size=off+k:=AC
  simp [hm]
theorem Mi {offs:List (Nat×Nat)} {place:Nat->Option (Nat×Nat)} (hp:∀(n o s:Nat),offs[n]? =some (o,s)->place n=some (o,s)):
 ∀{ps:List (Nat×V)} {U:List (Nat×Value)} {cs:List V} {vs:List Value} {K:List V->Prop},Aj I cs vs->
  U.map (·.1)=ps.map (·.1)->Aj I (ps.map (·.2)) (U.map (·.2))->(∀p ∈ ps,p.2.known=true)->MW offs cs ps K->
  ∃cs' us,Instr.fill place vs.toArray U=some us.toArray/\Aj I cs' us/\K cs'/\us.length=vs.length
 |[],U,cs,vs,K,hk,h1,h2,h3,k=>by
  have:U=[]:=by simpa using h1
  subst this
  exact ⟨cs,vs,rfl,hk,BD.1 k,rfl⟩
 |(i,v)::ps,[],cs,vs,K,hk,h1,h2,h3,k=>by simp at h1
 |(i,v)::ps,(j,c)::U,cs,vs,K,hk,h1,h2,h3,k=>by
  simp only [List.map_cons,List.cons.injEq] at h1
  obtain ⟨rfl,h1⟩:=h1
  simp only [List.map_cons,Aj] at h2
  obtain ⟨c',s,e,h4,h5⟩:=h2
  injection e with e1 e2
  subst e1;subst e2
  rw [QK] at k
  split at k
  .rename_i off size ho
   obtain ⟨g1,k⟩:=At.1 k
   obtain ⟨g2,k⟩:=At.1 k
   have g1:=Nat.eq_of_beq_eq_true g1
   have g2:=Nat.le_of_ble_eq_true g2
   have hkn:=h3 (j,v) List.mem_cons_self
   have hc:=E5 h4 hkn
   have hlc:v.cells.length=c.cells.size:=by rw [Aj.length hc,Array.length_toList]
   have hlv:=Aj.length hk
   have hf:=NY c.cells.toList 0 off vs.toArray cb
   have hfa:c.cells.zipIdx.foldl (λcs (p:Value×Nat)=>cs.setIfInBounds (off+p.2) p.1) vs.toArray=(vs.take off++c.cells.toList++vs.drop (off+size)).toArray:=by
    apply Array.ext'
    rw [<-Array.foldl_toList,Array.toList_zipIdx,hf]
    simp [<-hlc,g1]
   have hR:Aj I (cs.take off++v.cells++cs.drop (off+size)) (vs.take off++c.cells.toList++vs.drop (off+size)):=
    Aj.append (Aj.append (Aj.take _ hk) hc) (Aj.drop _ hk)
   obtain ⟨cs',us,q1,q2,q3,q4⟩:=Mi hp hR h1 h5 (λp hp'=>h3 p (List.mem_cons_of_mem _ hp')) k
   refine ⟨cs',us,?_,q2,q3,?_⟩
   .simp only [Instr.fill,hp j off size ho]
    rw [if_neg cb,hfa]
    exact q1
   .rw [q4];simp;omega
  .exact k.elim
theorem IA {B:Nat} (h:Is D B I β env st a w):∀{l:List (Nat×Operand)} {K:List (Nat×V)->Prop},Hk env l K->
 ∃ps,(l.map λp=>(p.1,a.eval p.2)).map (·.1)=ps.map (·.1)/\Aj I (ps.map (·.2)) ((l.map λp=>(p.1,a.eval p.2)).map (·.2))/\(∀p ∈ ps,p.2.known=true)/\K ps
 |[],K,k=>⟨[],rfl,by simp only [List.map_nil,Aj],λp hp=>(by cases hp),k⟩
 |(i,x)::r,K,k=>by
  rw [MU,V.AP] at k
  obtain ⟨hp,k⟩:=At.1 k
  obtain ⟨ps,h1,h2,h3,h4⟩:=IA h k
  refine ⟨(i,env.eval x)::ps,by simp only [List.map_cons,h1],?_,λp U=>?_,h4⟩
  .simp only [List.map_cons,Aj]
   exact ⟨_,_,rfl,(h.eval x).rep (FX hp),h2⟩
  .rcases List.mem_cons.1 U with rfl|U
   .exact hp
   .exact h3 p U
theorem XB {t:TypeId} {parts:Array (Nat×Operand)} (hT:Hf P T) (hK:CJ D I0 st0 w0 β env.BI a o.dst next K) (h:Rel D I0 st0 w0 I β env st a w) (ho:o.op=.build t parts)
 (k:match assoc T t with
 |some (.struct U z)=>Hk env parts.toList λps=>MW U z ps λcs=>K (.agg cs) env st
 |some (.arr U z)=>Hk env parts.toList λps=>MW U z ps λcs=>K (.agg cs) env st
 |_=>False):o.wp P a w next Qc:=by
 split at k
 .rename_i U z ht
  obtain ⟨i,fields,zs,h1,h2,h3,h4,h5,h6,h7,_⟩:=hT t _ ht
  obtain ⟨ps,g1,g2,g3,k⟩:=IA h.f k
  have hm:(fields.mapM λf=>do pure (f.offset,<-sizeOf f.type):Sem (Array (Nat×Nat))).run P w=.ok U.toArray w:=by
   have key:∀(fs:List Field) (os:List (Nat×Nat)),fs.length=os.length->(∀(n o s:Nat),os[n]? =some (o,s)->∃(f:Field) (j:TypeInfo),fs[n]? =some f/\f.offset=o/\P.info? f.type=some j/\j.size=s)->
    (fs.mapM λf=>do pure (f.offset,<-sizeOf f.type):Sem (List (Nat×Nat))).run P w=.ok os w:=by
    intro fs
    induction fs with
    |nil=>intro os hl _;cases os with
     |nil=>rfl
     |cons x y=>simp at hl
    |cons f fs ih=>
     intro os hl hq
     cases os with
     |nil=>simp at hl
     |cons p os=>
      obtain ⟨po,psz⟩:=p
      obtain ⟨f',j,q1,q2,q3,q4⟩:=hq 0 po psz GT
      simp at q1
      subst q1
      have:=ih os (by simpa using hl) (λn o s e=>hq (n+1) o s (by simpa using e))
      simp only [List.mapM_cons,Sem.run_bind,CG q3,Result.andThen_ok,Sem.run_pure,this,q2,q4]
   have:=key fields.toList U (by rw [Array.length_toList];exact h6) (λn o s e=>by
    obtain ⟨f,j,q1,q2⟩:=h7 n o s e
    exact ⟨f,j,by simpa using q1,q2⟩)
   rw [Array.mapM_eq_mapM_toList,Sem.run_map,this]
   rfl
  obtain ⟨cs',us,q1,q2,q3,q4⟩:=Mi (place:=λn=>U.toArray[n]?) (λn o s e=>by simpa using e) (Aj.mono (Mem.empty_le I) _ _ h5) g1 g2 g3 k
  refine AX hK (c:=.agg us.toArray) (w':=w) (v:=.agg cs') ?_ h (A8.of (by simp only [AE];exact ⟨us,rfl,q2⟩)) q3
  have hpl:(parts.map λ(i,x)=>(i,a.eval x)).toList=parts.toList.map λp=>(p.1,a.eval p.2):=GT
  simp only [execOp,ho,Instr.build,Sem.run_bind,EO h1 h4,Value.cells,Result.andThen_ok,AD h2,hm,hpl,q1,Sem.run_pure]
 .rename_i U z ht
  obtain ⟨i,n,e,j,zs,h1,h2,h3,h4,h5,h6,h7⟩:=hT t _ ht
  obtain ⟨ps,g1,g2,g3,k⟩:=IA h.f k
  obtain ⟨cs',us,q1,q2,q3,q4⟩:=Mi (place:=λn=>some (n*j.size,j.size)) (λn o s e=>by obtain ⟨rfl,rfl⟩:=h7 n o s e;rfl) (Aj.mono (Mem.empty_le I) _ _ h5) g1 g2 g3 k
  refine AX hK (c:=.agg us.toArray) (w':=w) (v:=.agg cs') ?_ h (A8.of (by simp only [AE];exact ⟨us,rfl,q2⟩)) q3
  have hpl:(parts.map λ(i,x)=>(i,a.eval x)).toList=parts.toList.map λp=>(p.1,a.eval p.2):=GT
  simp only [execOp,ho,Instr.build,Sem.run_bind,EO h1 h4,Value.cells,Result.andThen_ok,AD h2,CG h6,hpl,q1,Sem.run_pure]
 .exact k.elim
theorem JZ {sz:Nat}:∀{l:List (List V)} {b o:Nat},CH I st w->Co I sz b o l->∃vs,BX I sz l vs/\∀j v,vs[j]? =some v->w.cell? ⟨b,o+j,none⟩=some v
 |[],b,o,U,k=>⟨[],by simp only [BX],λj v e=>by simp at e⟩
 |u::r,b,o,U,k=>by
  simp only [Co] at k
  obtain ⟨⟨h0,h1⟩,k2⟩:=k
  obtain ⟨us,h2,h3⟩:=Mt U h1
  obtain ⟨vs,h4,h5⟩:=JZ U k2
  have hl:us.length=sz:=by rw [<-Aj.length h2,h0]
  refine ⟨us++vs,by simp only [BX];exact ⟨us,vs,rfl,h0,h2,h4⟩,λj v e=>?_⟩
  rcases Nat.lt_or_ge j us.length with h|h
  .rw [List.getElem?_append_left h] at e;exact h3 j v e
  .rw [List.getElem?_append_right h] at e
   have:=h5 _ v e
   rw [show o+sz+(j - us.length)=o+j by omega] at this
   exact this
theorem BX.append {sz:Nat}:∀{l r:List (List V)} {vs us:List Value},BX I sz l vs->BX I sz r us->BX I sz (l++r) (vs++us)
 |[],r,vs,us,k,h=>by simp only [BX] at k;subst k;simpa using h
 |v::l,r,vs,us,k,h=>by
  simp only [BX] at k
  obtain ⟨u1,s,e,U,k2,k3⟩:=k
  subst e
  simp only [List.cons_append,BX]
  exact ⟨u1,s++us,GT,U,k2,BX.append k3 h⟩
theorem BX.wk {sz:Nat}:∀{l:List (List V)} {vs:List Value},BX I sz l vs->BX I sz (l.map (·.map V.Ko)) vs
 |[],vs,k=>by simpa only [List.map_nil,BX] using k
 |v::l,vs,k=>by
  simp only [BX] at k
  obtain ⟨u1,s,e,U,k2,k3⟩:=k
  simp only [List.map_cons,BX]
  exact ⟨u1,s,e,by simpa using U,Aj.map (λ_ _=>AE.Ko) k2,BX.wk k3⟩
theorem BX.sc {sz:Nat}:∀{l:List (List V)} {vs:List Value},BX I sz l vs->(l.all λv=>v.all V.sc)=true->∀c ∈ vs,c.oneCell'=true
 |[],vs,k,h,c,hc=>by simp only [BX] at k;subst k;cases hc
 |v::l,vs,k,h,c,hc=>by
  simp only [BX] at k
  obtain ⟨u1,s,e,k1,U,k3⟩:=k
  subst e
  simp only [List.all_cons,Bool.and_eq_true] at h
  rcases List.mem_append.1 hc with hc|hc
  .exact Zv U h.1 c hc
  .exact BX.sc k3 h.2 c hc
theorem BX.mono {J:Mem} {sz:Nat} (h:I.le J):∀{l:List (List V)} {vs:List Value},BX I sz l vs->BX J sz l vs
 |[],vs,k=>by simpa only [BX] using k
 |v::l,vs,k=>by
  simp only [BX] at k |-
  obtain ⟨u1,s,e,U,k2,k3⟩:=k
  exact ⟨u1,s,e,U,Aj.mono h _ _ k2,BX.mono h k3⟩
theorem bF {sz:Nat}:∀{vs:List V} {cs:List Value},Aj I vs cs->(vs.all λv=>v.known&&Nat.beq v.cells.length sz)=true->
 BX I sz (vs.map λv=>v.cells.map V.Ko) (cs.flatMap λc=>c.cells.toList)/\∀c ∈ cs,c.cells.size=sz
 |[],cs,k,h=>by simp only [Aj] at k;subst k;exact ⟨by simp only [List.map_nil,List.flatMap_nil,BX],λc hc=>by cases hc⟩
 |v::r,cs,k,h=>by
  simp only [Aj] at k
  obtain ⟨c,s,e,k1,k2⟩:=k
  subst e
  simp only [List.all_cons,Bool.and_eq_true] at h
  obtain ⟨⟨h1,h2⟩,h3⟩:=h
  have h2:=Nat.eq_of_beq_eq_true h2
  obtain ⟨g1,g2⟩:=bF k2 h3
  have hc:=E5 k1 h1
  refine ⟨?_,λc' U=>?_⟩
  .simp only [List.map_cons,List.flatMap_cons,BX]
   exact ⟨_,_,rfl,by simpa using h2,Aj.map (λ_ _=>AE.Ko) hc,g1⟩
  .rcases List.mem_cons.1 U with rfl|U
   .rw [<-h2,Aj.length hc,Array.length_toList]
   .exact g2 c' U
theorem Vn {size:Nat}:∀(U:List (Nat×Value)) (n:Nat) (pre rest:List Value),pre.length=n*size->rest.length=U.length*size->
 (∀j p,U[j]? =some p->p.1=n+j)->(∀p ∈ U,p.2.cells.size=size)->
 Instr.fill (λi=>some (i*size,size)) (pre++rest).toArray U=some (pre++U.flatMap λp=>p.2.cells.toList).toArray
 |[],n,pre,rest,h1,h2,h3,h4=>by
  have:rest=[]:=List.eq_nil_of_length_eq_zero (by simpa using h2)
  subst this
  simp [Instr.fill]
 |(i,c)::U,n,pre,rest,h1,h2,h3,h4=>by
  have hi:i=n:=by simpa using h3 0 (i,c) GT
  subst hi
  have hc:c.cells.size=size:=h4 (i,c) List.mem_cons_self
  have hr:rest.length=U.length*size+size:=by rw [h2,List.length_cons,Nat.add_mul];omega
  have hf:=NY c.cells.toList 0 (i*size) (pre++rest).toArray cb
  have hfa:c.cells.zipIdx.foldl (λcs (p:Value×Nat)=>cs.setIfInBounds (i*size+p.2) p.1) (pre++rest).toArray=((pre++c.cells.toList)++rest.drop size).toArray:=by
   apply Array.ext'
   rw [<-Array.foldl_toList,Array.toList_zipIdx,hf]
   simp only [Nat.add_zero,Array.length_toList,hc,<-h1]
   rw [List.take_left]
   simp [List.append_assoc,List.drop_append]
  have hlt:¬((pre++rest).toArray.size<i*size+c.cells.size):=cb
  simp only [Instr.fill,hc,ne_eq,not_true_eq_false,decide_false,Bool.false_or,gt_iff_lt,decide_eq_true_eq]
  rw [hc] at hlt
  rw [if_neg hlt,hfa,Vn U (i+1) (pre++c.cells.toList) (rest.drop size) (by simp [hc,Nat.add_mul];omega) cb
   (λj p e=>by have:=h3 (j+1) p (by simpa using e);omega) (λp hp=>h4 p (List.mem_cons_of_mem _ hp))]
  simp
theorem Rq:∀{l:List (Nat×Operand)} {n:Nat},Nz n l=true->∀(j:Nat) (p:Nat×Operand),l[j]? =some p->p.1=n+j
 |[],n,h,j,p,e=>by simp at e
 |(i,x)::r,n,h,j,p,e=>by
  simp only [Nz,Bool.and_eq_true] at h
  have U:=Nat.eq_of_beq_eq_true h.1
  cases j with
  |zero=>simp at e;subst e;simpa using U
  |succ j=>
   have:=Rq h.2 j p (by simpa using e)
   omega
theorem Rel.Q8 {sz cap:Nat} {es:List (List V)} {vs rest:List Value} {ty:TypeId} (h:Rel D I0 st0 w0 I β env st a w) (hr:BX I sz es vs) (hsz:0<sz) (hlim:es.length<Fe)
 (U:vs.length+rest.length=cap*sz) (hle:es.length<=cap):
 Rel D I0 st0 w0 (I.add w.heap.size 0 vs (vs.length+rest.length)) β env (st.B2 w.heap.size (es.length*sz)) a (w.alloc (.cells (vs++rest).toArray ty))/\
 AE (I.add w.heap.size 0 vs (vs.length+rest.length)) (.slice sz es (.tok w.heap.size)) (.slice (some ⟨w.heap.size,0,none⟩) es.length cap):=by
 have hl:=BX.length hr
 refine ⟨by rw [<-hl];exact h.newRow vs rest ty,?_⟩
 simp only [AE]
 refine ⟨some ⟨w.heap.size,0,none⟩,cap,rfl,hle,hlim,hsz,⟨rfl,?_⟩,.inr rfl,?_⟩
 .show (if w.heap.size=w.heap.size then some (vs.length+rest.length) else _)=_
  rw [if_pos rfl,U]
 .exact Co.add es vs 0 hr (Mem.QU (λo _=>Kv h.s o) (.inl (Lw h.s))) λj c e=>Mem.Tn e
theorem AE.own {sz:Nat} {es:List (List V)} {own U:AF} {c:Value} (h:AE I (.slice sz es own) c) (k:U=.any\/(U=.full/\∃ad,c=.slice ad es.length es.length)):AE I (.slice sz es U) c:=by
 simp only [AE] at h |-
 obtain ⟨ad,cap,e,h1,h2,h3,h4,h5⟩:=h
 refine ⟨ad,cap,e,h1,h2,h3,?_,h5⟩
 rcases k with rfl|⟨rfl,ad',e'⟩
 .trivial
 .rw [e] at e';injection e' with _ _ e'
theorem Oi {t:TypeId} {len:Nat} {parts:Array (Nat×Operand)} (hT:Hf P T) (hK:CJ D I0 st0 w0 β env.BI a o.dst next K) (h:Rel D I0 st0 w0 I β env st a w) (ho:o.op=.buildSlice t len parts)
 (k:match assoc T t with
 |some (.slice _ sz _)=>D3 (Nz 0 parts.toList) (D3 (Nat.beq len parts.toList.length) (D3 (Nat.ble (len*sz) 16777216)
  (UM env (parts.toList.map (·.2)) λvs=>D3 (vs.all λv=>v.known&&Nat.beq v.cells.length sz) (MX (vs.map λv=>v.cells.map V.Ko) λes=>K (.slice sz es .full) env st))))
 |_=>False):o.wp P a w next Qc:=by
 split at k
 .rename_i el sz by' ht
  obtain ⟨h1,k⟩:=At.1 k
  obtain ⟨h2,k⟩:=At.1 k
  obtain ⟨h3,k⟩:=At.1 k
  obtain ⟨vs,h4,k⟩:=GA h.f k
  obtain ⟨h5,k⟩:=At.1 k
  have k:=Ie.1 k
  have h2:=Nat.eq_of_beq_eq_true h2
  have h3:=Nat.le_of_ble_eq_true h3
  obtain ⟨i0,j,c,g1,g2,g3,g4,g5,g6,g7,g8,g9,g10⟩:=hT t _ ht
  obtain ⟨q1,q2⟩:=bF h4 h5
  have hlv:=Aj.length h4
  simp only [List.length_map] at hlv
  have hmul:len<=len*sz:=Nat.le_mul_of_pos_right _ g8
  have hlen:(vs.map λv=>v.cells.map V.Ko).length=len:=by simp [hlv,h2]
  have hR:=BX.length q1
  rw [hlen] at hR
  obtain ⟨r1,r2⟩:=h.Q8 (rest:=[]) (ty:=el) (cap:=len) q1 g8 (by rw [hlen];simp only [Fe];omega) (by rw [hR,List.length_nil,Nat.add_zero]) (by rw [hlen];exact Nat.le_refl _)
  rw [hlen] at r1 r2
  have hfr:=DV h.s
  have r1':=r1.IK (st':=st) (St.KJ (St.le_refl st) hfr.2 _)
  refine AX hK (c:=.slice (some ⟨w.heap.size,0,none⟩) len len) ?_ r1' (A8.of (AE.own r2 (.inr ⟨rfl,_,by rw [hlen]⟩))) k
  have hp:(parts.map λ(i,x)=>(i,a.eval x)).toList=parts.toList.map λp=>(p.1,a.eval p.2):=GT
  have hz:∀z:Array Value,((Array.range (len*sz)).map λx=>z[x % z.size]!).toList.length=parts.toList.length*sz:=λz=>by simp [h2]
  have U:∀z:Array Value,Instr.fill (λi=>some (i*sz,sz)) ((Array.range (len*sz)).map λx=>z[x % z.size]!) (parts.toList.map λp=>(p.1,a.eval p.2))=
   some (((parts.toList.map (·.2)).map a.eval).flatMap λc=>c.cells.toList).toArray:=λz=>by
   have:=Vn (size:=sz) (parts.toList.map λp=>(p.1,a.eval p.2)) 0 [] ((Array.range (len*sz)).map λx=>z[x % z.size]!).toList GT (by rw [hz,List.length_map])
    (λj p e=>by
      rw [List.getElem?_map] at e
      cases hq:parts.toList[j]? with
      |none=>rw [hq] at e;cases e
      |some p'=>
       rw [hq] at e
       simp only [Option.map_some,Option.some.injEq] at e
       subst e
       exact Rq h1 j p' hq)
    (λp hp=>by
      obtain ⟨p',hp1,rfl⟩:=List.mem_map.1 hp
      exact q2 _ (List.mem_map.2 ⟨p'.2,List.mem_map.2 ⟨p',hp1,rfl⟩,rfl⟩))
   simp only [List.nil_append,Array.toArray_toList] at this
   rw [this]
   congr 2
   simp [List.flatMap_map]
  have hbig:¬(len*sz>2 ^ 24):=AC
  simp only [execOp,ho,Instr.buildSlice,Sem.run_bind,AD g2,Result.andThen_ok,CG g5,g6,hp]
  rw [if_neg hbig]
  simp only [Sem.run_bind,Sem.run_pure,Result.andThen_ok,U,newRow,run_newObj,World.alloc_eq,List.append_nil]
  by_cases h0:len*sz=0
  .rw [if_pos h0]
   simp only [Sem.run_bind,Sem.run_pure,Result.andThen_ok,run_newObj,World.alloc_eq]
  .rw [if_neg h0]
   simp only [Sem.run_bind,Sem.run_pure,Result.andThen_ok,EO g5 g9,run_newObj,World.alloc_eq]
 .exact k.elim
theorem Jo {t ty e:TypeId} {i:TypeInfo} (ht:P.underlying t=some (.slice e)) (hi:P.info? e=some i)
 {g U sCap:Nat} {cur:Array Value} {ety:TypeId} (hg:w.heap[g]? =some (.cells cur ety (0,0)))
 {ad:Addr} {m c:Nat} {news:List Value} (hl:news.length=m*i.size) (hnews:∀j u,news[j]? =some u->w.cell? (ad.add j)=some u) (h1:∀u ∈ news,u.oneCell'=true)
 (hroom:U+m<=sCap) (hfit:U*i.size+news.length<=cur.size):
 (Builtin.append_ #[t,t] ty #[.slice (some ⟨g,0,none⟩) U sCap,.slice (some ad) m c]).run P w=
   .ok (.slice (some ⟨g,0,none⟩) (U+m) sCap) (w.setRow g (cur.toList.take (U*i.size)++news++cur.toList.drop (U*i.size+news.length)).toArray):=by
 have hf:=run_firstCells_some (P:=P) w i.size m ad m c news hl hnews
 have hst:=run_storeCells_at P g (U*i.size) ety news 0 cur w hg (by simpa using hfit) h1
 simp only [Nat.add_zero] at hst
 simp [Builtin.append_,run_underlying ht,sizeOf,typeInfo,hi,Builtin.lenOf,hroom,hf,Dz,hst]
theorem Og {t ty e:TypeId} {i:TypeInfo} (ht:P.underlying t=some (.slice e)) (hi:P.info? e=some i) {ad U:Option Addr} {n cap c:Nat} (h:n<=cap):
 (Builtin.append_ #[t,t] ty #[.slice ad n cap,.slice U 0 c]).run P w=.ok (.slice ad n cap) w:=by
 have hf:∀size:Nat,(Builtin.firstCells size 0 (.slice U 0 c)).run P w=.ok #[] w:=by
  intro size
  cases U<;>simp [Builtin.firstCells,loadCells,loadCellsFrom]
 cases ad<;>simp [Builtin.append_,run_underlying ht,sizeOf,typeInfo,hi,Builtin.lenOf,h,hf,storeCells]
theorem BX.flat {sz:Nat}:∀{l:List (List V)} {vs:List Value},BX I sz l vs->Aj I l.flatten vs
 |[],vs,k=>by simp only [BX] at k;subst k;simp only [List.flatten_nil,Aj]
 |v::l,vs,k=>by
  simp only [BX] at k
  obtain ⟨u1,s,e,k1,U,k3⟩:=k
  subst e
  rw [List.flatten_cons]
  exact Aj.append U (BX.flat k3)
theorem Aj.Cj:∀{vs:List Value} {m:Nat},vs.length=m->Aj I (List.replicate m .Cj) vs
 |[],m,e=>by subst e;simp only [List.length_nil,List.replicate_zero,Aj]
 |v::r,m,e=>by
  obtain ⟨k,rfl⟩:∃k,m=k+1:=⟨r.length,by rw [<-e];rfl⟩
  rw [List.replicate_succ]
  simp only [Aj]
  exact ⟨v,r,rfl,by simp only [AE],Aj.Cj (by simpa using e)⟩
theorem Pa {t:TypeId} {x y:Operand} {ty:TypeId} {sz bytes b n cap el:Nat} {new:List (List V)} {own:AF} (hT:Hf P T) (hK:CJ D I0 st0 w0 β env.BI a o.dst next K) (h:Rel D I0 st0 w0 I β env st a w)
 (hr:∀(c:Value) (w':World),(Builtin.append_ #[t,t] ty #[a.eval x,a.eval y]).run P w=.ok c w'->(execOp a.eval o).run P w=.ok (.value c) w')
 (ht:assoc T t=some (.slice el sz bytes)) (hx:A8 I β (.DM sz b n cap) (a.eval x)) (hy:A8 I β (.slice sz new own) (a.eval y))
 (k:ES sz bytes b n cap new st λv st'=>K v env st'):o.wp P a w next Qc:=by
 obtain ⟨hb,hlim,k⟩:=k
 obtain ⟨hsc,hne,cs,hcs,hlc,k⟩:=At.1 k
 obtain ⟨i0,j,c,g1,g2,g3,g4,g5,g6,g7,g8,g9,g10⟩:=hT t _ ht
 subst g6
 subst g7
 obtain ⟨x1,x2,x3,x4⟩:=Nq hx
 obtain ⟨ay,cap',y1,y2,y3,y4,y5,y6⟩:=GJ hy
 obtain ⟨vs,ety,hw,hvs⟩:=h.s.box b cs hcs
 have hvl:=Aj.length hvs
 have hpos:0<new.length:=List.length_pos_iff.2 hne
 cases ay with
 |none=>simp only at y6;omega
 |some ay=>
  obtain ⟨by1,oy,spy⟩:=ay
  simp only at y6
  obtain ⟨y0,y6⟩:=y6
  obtain rfl:spy=none:=y0.resolve_left AC
  obtain ⟨news,n1,n2⟩:=JZ h.s y6
  have n2':∀jj v,news[jj]? =some v->w.cell? ((⟨by1,oy,none⟩:Addr).add jj)=some v:=λjj v e=>by rw [Dz];exact n2 jj v e
  have nl:=BX.length n1
  have nsc:=BX.sc n1 hsc
  have h63:((n+new.length:Nat):Int)<=9223372036854775807:=by simp only [Fe] at hlim;omega
  have hmc:n*j.size<=cap*j.size:=Nat.mul_le_mul_right _ x2
  rcases Nat.lt_or_ge cap (n+new.length) with hlt|U
  .have hge:=grownCap_ge w (n+new.length) cap el
   have hz:∀q:Nat,(Builtin.zeroCells c.cells q).toList.length=q*j.size:=λq=>by rw [Array.length_toList,size_zeroCells,g10]
   have ho:(vs.take (n*j.size)).length=n*j.size:=NE
   have hrun:=run_append_grow (P:=P) w t ty el j c g2 g5 g9 ⟨b,0,none⟩ n cap (vs.take (n*j.size)) ho (λjj v e=>by
    rw [Dz,Nat.zero_add]
    refine Jc hw ?_
    rw [List.getElem?_take] at e
    split at e
    .exact e
    .cases e) ⟨by1,oy,none⟩ new.length cap' news nl n2' hlt h63 (growslice_fits hlt AC)
   have hm:(Builtin.zeroCells c.cells (grownCap w (n+new.length) cap el - (n+new.length))).toList.length=(grownCap w (n+new.length) cap el - (n+new.length))*j.size:=hz _
   have r1:=(h.Kk (GZ.drew w)).Lg (cs:=cs.take (n*j.size)++(new.map (·.map V.Ko)).flatten++List.replicate ((grownCap w (n+new.length) cap el - (n+new.length))*j.size) .Cj)
    (vs:=vs.take (n*j.size)++news++(Builtin.zeroCells c.cells (grownCap w (n+new.length) cap el - (n+new.length))).toList)
    (Aj.append (Aj.append (Aj.take _ hvs) n1.wk.flat) (Aj.Cj hm)) el
   have harr:(vs.take (n*j.size)++news++(Builtin.zeroCells c.cells (grownCap w (n+new.length) cap el - (n+new.length))).toList).toArray=
    (vs.take (n*j.size)).toArray++news.toArray++Builtin.zeroCells c.cells (grownCap w (n+new.length) cap el - (n+new.length)):=by
    apply Array.ext';simp
   rw [harr] at r1
   refine AX (β':=β) hK (hr _ _ (by rw [x1,y1];exact hrun)) r1 (A8.of (by simp only [AE];exact ⟨rfl,hge,hlim,x4⟩)) (k w.heap.size _ _ (.inr (DV h.s)) ?_)
   rw [<-Nat.add_mul];congr 1;omega
  .have hmul:(n+new.length)*j.size<=cap*j.size:=Nat.mul_le_mul_right _ U
   have hnm:n*j.size+new.length*j.size=(n+new.length)*j.size:=(Nat.add_mul ..).symm
   have hrun:=Jo (P:=P) (ty:=ty) (c:=cap') g2 g5 hw nl n2' nsc U (by rw [nl,List.size_toArray];omega)
   have hm:(vs.drop (n*j.size+news.length)).length=cap*j.size - (n+new.length)*j.size:=by rw [List.length_drop,nl];omega
   have r1:=h.OX (b:=b) (cs':=cs.take (n*j.size)++(new.map (·.map V.Ko)).flatten++List.replicate (cap*j.size - (n+new.length)*j.size) .Cj) (us:=vs.take (n*j.size)++news++vs.drop (n*j.size+news.length)) hcs hw
    (Aj.append (Aj.append (Aj.take _ hvs) n1.wk.flat) (Aj.Cj hm))
   refine AX (β':=β) hK (hr _ _ (by rw [x1,y1];exact hrun)) r1 (A8.of (by simp only [AE];exact ⟨rfl,U,hlim,x4⟩)) (k _ _ _ (.inl rfl) ?_)
   omega
theorem Ux {t u:TypeId} {x y:Operand} {ty:TypeId} (hT:Hf P T) (hK:CJ D I0 st0 w0 β env.BI a o.dst next K) (h:Rel D I0 st0 w0 I β env st a w)
 (hr:∀(c:Value) (w':World),(Builtin.append_ #[t,u] ty #[a.eval x,a.eval y]).run P w=.ok c w'->(execOp a.eval o).run P w=.ok (.value c) w')
 (k:match assoc T t,assoc T u,env.Bz T t x,env.Bz T u y with
   |some (.slice _ sz bytes),some (.slice _ _ _),.slice sz' es own,.slice sz'' new _=>
    D3 (Nat.beq t u&&(Nat.beq sz sz'&&Nat.beq sz sz'')) (Ag sz bytes es own new st λv st'=>K v env st')
   |some (.slice _ sz bytes),some (.slice _ _ _),.DM sz' b n cap,.slice sz'' new _=>
    D3 (Nat.beq t u&&(Nat.beq sz sz'&&Nat.beq sz sz'')) (ES sz bytes b n cap new st λv st'=>K v env st')
   |_,_,_,_=>False):o.wp P a w next Qc:=by
 have hx:=h.f.Bz hT t x
 have hy:=h.f.Bz hT u y
 split at k
 .rename_i el sz by' _ _ _ sz' es own sz'' new own' ht hu hex hey
  rw [hex] at hx
  rw [hey] at hy
  obtain ⟨h1,k1⟩:=At.1 k
  clear k
  simp only [Bool.and_eq_true] at h1
  obtain ⟨e1,e2,e3⟩:=h1
  have e1:=Nat.eq_of_beq_eq_true e1
  have e2:=Nat.eq_of_beq_eq_true e2
  have e3:=Nat.eq_of_beq_eq_true e3
  subst e1;subst e2;subst e3
  obtain ⟨hb,hlim,k2⟩:=k1
  obtain ⟨hsc,k3⟩:=At.1 k2
  clear k2
  obtain ⟨i0,j,c,g1,g2,g3,g4,g5,g6,g7,g8,g9,g10⟩:=hT t _ ht
  subst g6
  subst g7
  obtain ⟨ax,cap,x1,x2,x3,x4,x5,x6⟩:=GJ hx
  obtain ⟨ay,cap',y1,y2,y3,y4,y5,y6⟩:=GJ hy
  cases hnew:new with
  |nil=>
   subst hnew
   have hrun:=hr _ _ (by rw [x1,y1];exact Og g2 g5 x2)
   cases own with
   |any=>exact k3.elim
   |full=>exact AX hK hrun h (A8.of (by have:AE I (.slice j.size es .full) (a.eval x):=hx;rw [x1] at this;exact this)) (k3.1 rfl)
   |tok b=>
    obtain ⟨hh,k3⟩:=k3
    have k4:=k3 b (.inl rfl)
    simp only [List.map_nil,List.append_nil,List.length_nil,Nat.add_zero] at k4
    have hle:((st.Ex b).B2 b (es.length*j.size)).le st:=by
     refine ⟨λ_ _ e=>e,λz n e=>?_⟩
     simp only [St.B2,St.Ex] at e
     split at e
     .rename_i hz;subst hz;rw [hh];exact e
     .exact e
    exact AX hK hrun (h.IK hle) (A8.of (by have:AE I (.slice j.size es (.tok b)) (a.eval x):=hx;rw [x1] at this;exact this)) k4
  |cons n0 nr=>
   have hpos:0<new.length:=by rw [hnew];simp
   have hne:new≠[]:=by rw [hnew];simp
   cases ay with
   |none=>simp only at y6;omega
   |some ay=>
    obtain ⟨by1,oy,spy⟩:=ay
    simp only at y6
    obtain ⟨y0,y6⟩:=y6
    obtain rfl:spy=none:=y0.resolve_left AC
    obtain ⟨news,n1,n2⟩:=JZ h.s y6
    have n2':∀jj v,news[jj]? =some v->w.cell? ((⟨by1,oy,none⟩:Addr).add jj)=some v:=λjj v e=>by rw [Dz];exact n2 jj v e
    have nl:=BX.length n1
    have nsc:=BX.sc n1 hsc
    have h63:((es.length+new.length:Nat):Int)<=9223372036854775807:=by simp only [Fe] at hlim;omega
    have grow:∀(U:List Value) (oldCap:Nat) (kk:V->St->Prop),
     BX I j.size es U->oldCap<es.length+new.length->
     (Builtin.append_ #[t,t] ty #[a.eval x,a.eval y]).run P w=.ok (.slice (some ⟨w.heap.size,0,none⟩) (es.length+new.length) (grownCap w (es.length+new.length) oldCap el))
       (w.drew.alloc (.cells (U.toArray++news.toArray++Builtin.zeroCells c.cells (grownCap w (es.length+new.length) oldCap el - (es.length+new.length))) el))->
     ∀st',st'.le (st.B2 w.heap.size ((es.length+new.length)*j.size))->K (.slice j.size (es++new.map (·.map V.Ko)) (.tok w.heap.size)) env st'->o.wp P a w next Qc:=by
     intro U oldCap kk ho hlt hrun st' hle hk
     have hge:=grownCap_ge w (es.length+new.length) oldCap el
     have hall:BX I j.size (es++new.map (·.map V.Ko)) (U++news):=ho.append n1.wk
     have hlen:(es++new.map (·.map V.Ko)).length=es.length+new.length:=GT
     have hlo:=BX.length ho
     have hz:∀q:Nat,(Builtin.zeroCells c.cells q).toList.length=q*j.size:=λq=>by rw [Array.length_toList,size_zeroCells,g10]
     obtain ⟨r1,r2⟩:=(h.Kk (GZ.drew w)).Q8 (rest:=(Builtin.zeroCells c.cells (grownCap w (es.length+new.length) oldCap el - (es.length+new.length))).toList) (ty:=el)
      (cap:=grownCap w (es.length+new.length) oldCap el) hall x4 (by rw [hlen];exact hlim)
      (by rw [List.length_append,hlo,nl,hz,<-Nat.add_mul,<-Nat.add_mul];congr 1;omega) (by rw [hlen];exact hge)
     rw [hlen] at r1 r2
     refine AX (β':=β) hK (hr _ _ hrun) ?_ (A8.of r2) hk
     refine Rel.IK ?_ hle
     have:(U++news++(Builtin.zeroCells c.cells (grownCap w (es.length+new.length) oldCap el - (es.length+new.length))).toList).toArray=
      U.toArray++news.toArray++Builtin.zeroCells c.cells (grownCap w (es.length+new.length) oldCap el - (es.length+new.length)):=by
      apply Array.ext';simp
     rw [this] at r1
     exact r1
    have Mq:∃U,BX I j.size es U/\(cap<es.length+new.length->(Builtin.append_ #[t,t] ty #[a.eval x,a.eval y]).run P w=.ok (.slice (some ⟨w.heap.size,0,none⟩) (es.length+new.length) (grownCap w (es.length+new.length) cap el))
     (w.drew.alloc (.cells (U.toArray++news.toArray++Builtin.zeroCells c.cells (grownCap w (es.length+new.length) cap el - (es.length+new.length))) el))):=by
     cases ax with
     |none=>
      simp only at x6
      subst x6
      have:es=[]:=List.eq_nil_of_length_eq_zero AC
      subst this
      refine ⟨[],by simp only [BX],λhlt=>?_⟩
      have:=run_append_nil (P:=P) w t ty el j c g2 g5 g9 ⟨by1,oy,none⟩ new.length cap' news nl n2' hpos (by simpa using h63) (by simp only [List.length_nil,Nat.zero_add] at hb;omega)
      rw [x1,y1]
      simp only [List.length_nil,Nat.zero_add] at this |-
      rw [this]
      simp
     |some ax=>
      obtain ⟨bx,ox,spx⟩:=ax
      simp only at x6
      obtain ⟨x0,x6⟩:=x6
      obtain ⟨U,o1,o2⟩:=JZ h.s x6
      refine ⟨U,o1,λhlt=>?_⟩
      rw [x1,y1]
      exact run_append_grow (P:=P) w t ty el j c g2 g5 g9 ⟨bx,ox,spx⟩ es.length cap U (BX.length o1) (λjj v e=>by
       rcases x0 with x0|x0
       .have h0:es.length=0:=AC
        have:=BX.length o1
        rw [h0,Nat.zero_mul] at this
        rw [List.eq_nil_of_length_eq_zero this] at e
        cases e
       .have x0:spx=none:=x0
        subst x0
        rw [Dz];exact o2 jj v e) ⟨by1,oy,none⟩ new.length cap' news nl n2' hlt h63
       (growslice_fits hlt AC)
    obtain ⟨U,o1,o2⟩:=Mq
    have hfr:=DV h.s
    cases own with
    |any=>exact k3.elim
    |full=>
     have hc:cap=es.length:=x5
     rcases k3.2 hne with k4|k4
     .exact grow U cap (λ_ _=>True) o1 AC (o2 AC) _ (St.le_refl _) (k4 _ hfr)
     .have hge:=grownCap_ge w (es.length+new.length) cap el
      have hz:(Builtin.zeroCells c.cells (grownCap w (es.length+new.length) cap el - (es.length+new.length))).toList.length=(grownCap w (es.length+new.length) cap el - (es.length+new.length))*j.size:=by rw [Array.length_toList,size_zeroCells,g10]
      have r1:=(h.Kk (GZ.drew w)).Lg (cs:=(es++new.map (·.map V.Ko)).flatten++List.replicate ((grownCap w (es.length+new.length) cap el - (es.length+new.length))*j.size) .Cj)
       (vs:=U++news++(Builtin.zeroCells c.cells (grownCap w (es.length+new.length) cap el - (es.length+new.length))).toList)
       (Aj.append (o1.append n1.wk).flat (Aj.Cj hz)) el
      have harr:(U++news++(Builtin.zeroCells c.cells (grownCap w (es.length+new.length) cap el - (es.length+new.length))).toList).toArray=
       U.toArray++news.toArray++Builtin.zeroCells c.cells (grownCap w (es.length+new.length) cap el - (es.length+new.length)):=by
       apply Array.ext';simp
      rw [harr] at r1
      refine AX (β':=β) hK (hr _ _ (o2 AC)) r1 (A8.of (by simp only [AE];exact ⟨rfl,hge,hlim,x4⟩)) (k4 _ _ _ hfr ?_)
      rw [<-Nat.add_mul];congr 1;omega
    |tok b=>
     obtain ⟨hh,k3⟩:=k3
     obtain ⟨t1,t2⟩:=x5
     subst t1
     rcases Nat.lt_or_ge cap (es.length+new.length) with hlt|hroom
     .refine grow U cap (λ_ _=>True) o1 hlt (o2 hlt) _ ?_ (k3 w.heap.size (.inr hfr))
      refine ⟨λ_ _ e=>e,λz n e=>?_⟩
      simp only [St.B2,St.Ex] at e |-
      split at e
      .rename_i hz;rw [if_pos hz];exact e
      .rename_i hz
       rw [if_neg hz]
       split at e
       .cases e
       .exact e
     .obtain ⟨cur,ety,c1,c2⟩:=h.s.shape b _ t2
      have hmul:(es.length+new.length)*j.size<=cap*j.size:=Nat.mul_le_mul_right _ hroom
      rw [Nat.add_mul] at hmul
      have hfit:es.length*j.size+news.length<=cur.size:=by rw [nl,c2];exact hmul
      have hrun:=Jo (P:=P) (ty:=ty) (c:=cap') g2 g5 c1 nl n2' nsc hroom hfit
      have hcur:cur=cur.toList.toArray:=GT
      have r1:=h.fx (b:=b) (n:=es.length*j.size) (m:=cap*j.size) (cur:=cur.toList) (ty:=ety) hh (by rw [<-hcur];exact c1) t2 news (by rw [Array.length_toList];exact hfit)
      have hadd:es.length*j.size+news.length=(es.length+new.length)*j.size:=by rw [nl,Nat.add_mul]
      rw [hadd] at r1
      have hf:=(h.s.hw b _ hh).2
      have hl:I.le (I.add b (es.length*j.size) news (cap*j.size)):=Mem.QU hf (.inr t2)
      refine AX hK (hr _ _ (by rw [x1,y1];exact hrun)) (by rw [hadd];exact r1) (A8.of ?_) (k3 b (.inl rfl))
      simp only at x6
      simp only [AE]
      refine ⟨some ⟨b,0,none⟩,cap,GT,by simp;exact hroom,by simp;exact hlim,x4,⟨rfl,hl.2 _ _ t2⟩,.inr rfl,?_⟩
      refine Co.append (Co.mono hl _ _ _ _ x6.2) ?_
      refine Co.add _ news _ n1.wk hl λjj v e=>?_
      rw [Nat.zero_add]
      exact Mem.Tn e
 .rename_i el sz by' _ _ _ sz' b n cap sz'' new own' ht hu hex hey
  rw [hex] at hx
  rw [hey] at hy
  obtain ⟨h1,k1⟩:=At.1 k
  clear k
  simp only [Bool.and_eq_true] at h1
  obtain ⟨e1,e2,e3⟩:=h1
  have e1:=Nat.eq_of_beq_eq_true e1
  have e2:=Nat.eq_of_beq_eq_true e2
  have e3:=Nat.eq_of_beq_eq_true e3
  subst e1;subst e2;subst e3
  exact Pa hT hK h hr ht hx hy k1
 .exact k.elim
end
theorem Tw {s:List UInt8} {pos:Nat} (h:pos<s.length):Utf8.decode ⟨s.toArray⟩ pos=AU (s.drop pos):=by
 have hg:∀k,(ByteArray.get! ⟨s.toArray⟩ (pos+k)).toNat=((s.drop pos).getD k 0).toNat:=λk=>by
  simp only [ByteArray.get!,List.getD_eq_getElem?_getD,List.getElem?_drop]
  by_cases U:pos+k<s.length
  .simp [U]
  .simp [U];rfl
 have hd:s.drop pos=s[pos]::s.drop (pos+1):=List.drop_eq_getElem_cons h
 have hc:∀k,(decide (pos+(k+1)<s.length)&&((s.drop (pos+1)).getD k 0).toNat / 64==2)=(match (s.drop (pos+1))[k]? with|some b=>b.toNat / 64==2|none=>false):=λk=>by
  rw [List.getD_eq_getElem?_getD,List.getElem?_drop]
  by_cases U:pos+1+k<s.length
  .have:pos+(k+1)<s.length:=AC
   simp [U,this]
  .have:¬pos+(k+1)<s.length:=AC
   simp [U,this]
 have h1:∀k,((s.drop pos).getD (k+1) 0)=((s.drop (pos+1)).getD k 0):=λk=>by rw [hd,List.getD_cons_succ]
 have h0:(ByteArray.get! ⟨s.toArray⟩ (pos+0)).toNat=(s[pos]).toNat:=by rw [hg,hd];rfl
 have hz:(⟨s.toArray⟩:ByteArray).size=s.length:=by simp [ByteArray.size]
 unfold Utf8.decode
 simp only [hz]
 rw [hd]
 unfold AU
 simp only [h0]
 have c0:(decide (pos+1<s.length)&&((s.drop (pos+1)).getD 0 0).toNat / 64==2)=(match (s.drop (pos+1))[0]? with|some b=>b.toNat / 64==2|none=>false):=hc 0
 have c1:(decide (pos+2<s.length)&&((s.drop (pos+1)).getD 1 0).toNat / 64==2)=(match (s.drop (pos+1))[1]? with|some b=>b.toNat / 64==2|none=>false):=hc 1
 have c2:(decide (pos+3<s.length)&&((s.drop (pos+1)).getD 2 0).toNat / 64==2)=(match (s.drop (pos+1))[2]? with|some b=>b.toNat / 64==2|none=>false):=hc 2
 have g1:=hg 1
 have g2:=hg 2
 have g3:=hg 3
 rw [h1] at g1 g2 g3
 simp only [g1,g2,g3,c0,c1,c2]
 rfl
section
variable {D:List Deferred} {P:Program} {T:List (Nat×Ty)} {C:FuncId->List V->St->(AL->St->Prop)->Prop} {I0 I:Mem} {st0 st:St} {w0 w:World} {β:Nat->Option Nat} {env:Env} {a:Act}
variable {o:Oper} {K:V->Env->St->Prop} {Q:AM->Env->St->Prop} {next:Act->World->Prop} {Qc:Exit->Act->World->Prop}
theorem Rel.kM (h:Rel D I0 st0 w0 I β env st a w) {id b:Nat} {cs':List V} {ob:Obj} {w':World} (hb:β id=some b) (hn:w'.heap[b]? =some ob) (k:Laid I (some ob) cs') (ho:∀x,x≠b->w'.heap[x]? =w.heap[x]?)
 (e1:w'.os=w.os) (e2:w'.tape=w.tape) (e3:w'.output=w.output) (e4:w'.heap.size=w.heap.size):Rel D I0 st0 w0 I β {env with boxes:=(id,cs')::env.boxes} st a w':=by
 obtain ⟨s1,s2,s3,s4,s5,s6⟩:=h.f.sep id b hb
 refine ⟨⟨e1.trans h.fr.os,e2.trans h.fr.tape,e3.trans h.fr.output,by rw [e4];exact h.fr.size,λx U h1 h2=>?_,h.fr.le,h.fr.new,h.fr.Mo,h.fr.Mb⟩,⟨?_,?_,?_,h.s.JB,?_,h.s.UF⟩,⟨h.f.size,h.f.tmps,?_,h.f.BI,h.f.inj,?_,h.f.defers⟩⟩
 .rw [ho x AC];exact h.fr.Mq x U h1 h2
 .intro x o v e
  have U:x≠b:=λU=>by subst U;rw [s3 o] at e;cases e
  rw [Ia (ho x U)];exact h.s.cell x o v e
 .intro x n e
  have U:x≠b:=λU=>by subst U;rw [s4] at e;cases e
  obtain ⟨c,ty',h1,h2⟩:=h.s.shape x n e
  exact ⟨c,ty',by rw [ho x U];exact h1,h2⟩
 .intro x n e
  have U:x≠b:=λU=>by subst U;rw [s5] at e;cases e
  obtain ⟨c,ty',h1,h2⟩:=h.s.box x n e
  exact ⟨c,ty',by rw [ho x U];exact h1,h2⟩
 .intro x n e
  exact ⟨by rw [e4];exact (h.s.hw x n e).1,(h.s.hw x n e).2⟩
 .intro id' c e
  rw [BC] at e
  cases hq:Nat.beq id id' with
  |true=>
   rw [hq] at e
   have:=Nat.eq_of_beq_eq_true hq
   subst this
   simp only [cond_true,Option.some.injEq] at e
   subst e
   exact ⟨b,hb,by rw [hn];exact k⟩
  |false=>
   rw [hq] at e
   obtain ⟨b',h1,h2⟩:=h.f.box id' c e
   have U:b'≠b:=λU=>by
    subst U
    have:=h.f.inj _ _ _ h1 hb
    subst this
    simp at hq
   exact ⟨b',h1,by rw [ho b' U];exact h2⟩
 .intro id' b' e
  obtain ⟨h1,h2,h3⟩:=h.f.sep id' b' e
  exact ⟨h1,by rw [e4];exact h2,h3⟩
theorem R7 {t u:TypeId} {x:Operand} (hT:Hf P T) (hK:CJ D I0 st0 w0 β env.BI a o.dst next K) (h:Rel D I0 st0 w0 I β env st a w) (ho:o.op=.convert t u x)
 (k:match assoc T t,assoc T u,env.eval x with
 |some (.sc (.int _ _)),some (.sc (.int U _)),.int _ n=>∃r,r=U.wrap n/\K (.int U r) env st
 |_,_,_=>False):o.wp P a w next Qc:=by
 have hx:=h.f.eval x
 split at k
 .rename_i k0 n0 U n' k2 n ht hu hv
  rw [hv] at hx
  obtain ⟨r,rfl,k⟩:=k
  obtain ⟨i0,d0,c0,_,g0,_⟩:=hT t _ ht
  obtain ⟨i1,d1,c1,_,g1,_,_,_,_,_,_,_,g2⟩:=hT u _ hu
  have g2:d1=.int U:=g2
  subst g2
  refine AX hK (c:=.int U (U.wrap n)) (w':=w) ?_ h (A8.of (by simp only [AE])) k
  have hx:a.eval x=.int k2 n:=hx
  simp [execOp,ho,convert,hx,AD g0,AD g1,Conv.intToInt]
 .exact k.elim
theorem XF {t:TypeId} {x:Operand} (hT:Hf P T) (hK:CJ D I0 st0 w0 β env.BI a o.dst next K) (h:Rel D I0 st0 w0 I β env st a w) (ho:o.op=.range t x)
 (k:match assoc T t,env.eval x with
 |some (.sc (.str _)),.str s=>D3 (!env.il o.dst) (match env with
  |⟨ts,bs,n,sz,gl⟩=>K (.Cu n 0) ⟨ts,(n,[.O9 s 0])::bs,n+1,sz,gl⟩ st)
 |_,_=>False):o.wp P a w next Qc:=by
 have U:=h.f.eval x
 split at k
 .rename_i z0 s ht hv
  rw [hv] at U
  obtain ⟨i1,d1,c1,_,g1,_,_,_,_,_,_,_,g2⟩:=hT t _ ht
  have g2:d1=.string:=g2
  subst g2
  obtain ⟨_,k⟩:=At.1 k
  have U:a.eval x=.string ⟨s.toArray⟩/\s.length<Fe:=U
  have hn:β env.BI=none:=by
   cases e:β env.BI with
   |none=>rfl
   |some b=>exact absurd (h.f.BI _ _ e) (Nat.lt_irrefl _)
  have hr:=h.VN (cs:=[.O9 s 0]) (ob:=.stringIter ⟨s.toArray⟩ 0) (x:=env.BI) (n:=env.BI+1) (.inr ⟨s,0,rfl,U.2,rfl⟩) hn (Nat.lt_succ_self _) (Nat.le_succ _)
  refine AX hK (c:=.pointer (some ⟨w.heap.size,0,none⟩)) (v:=.Cu env.BI 0) (w':=w.alloc (.stringIter ⟨s.toArray⟩ 0)) ?_ hr (show ∃b,_/\_ from ⟨w.heap.size,if_pos rfl,rfl⟩) k (λid hid=>if_neg AC)
  simp only [execOp,ho,Instr.range,Sem.run_bind,AD g1,Result.andThen_ok,U.1,run_newObj,Sem.run_pure,World.alloc_eq]
 .exact k.elim
theorem OS {s:ByteArray} {pos b:Nat} {w:World} (h:w.heap[b]? =some (.stringIter s pos)):(getObj b).run P w=.ok (.stringIter s pos) w:=by
 simp only [getObj,Sem.run,h]
theorem Xo {s:ByteArray} {pos b:Nat} {w:World} {ob:Obj} (h:w.heap[b]? =some (.stringIter s pos)):(setObj b ob).run P w=.ok () {w with heap:=w.heap.setIfInBounds b ob}:=by
 simp only [setObj,Sem.run,h]
theorem ZB {x:Operand} (hK:CJ D I0 st0 w0 β env.BI a o.dst next K) (h:Rel D I0 st0 w0 I β env st a w) (ho:o.op=.next x true)
 (k:match env.eval x with
 | .Cu id 0=>match assoc env.boxes id with
   |some [.O9 s pos]=>match env with
    |⟨ts,bs,n,sz,gl⟩=>Bk (decide (pos<s.length)) (∀c m,(c,m)=AU (s.drop pos)->K (.Bh [.bool true,.int .i64 pos,.int .i32 c]) ⟨ts,(id,[.O9 s (pos+m)])::bs,n,sz,gl⟩ st) (K (.Bh [.bool false]) ⟨ts,bs,n,sz,gl⟩ st)
   |_=>False
 |_=>False):o.wp P a w next Qc:=by
 have hx:=h.f.eval x
 split at k
 .rename_i id he
  rw [he] at hx
  obtain ⟨b,hb,hx⟩:=Jl hx
  split at k
  .rename_i s pos hcs
   obtain ⟨b',h1,U⟩:=h.f.box id _ hcs
   rw [hb] at h1
   injection h1 with h1
   subst h1
   have U:s.length<Fe/\w.heap[b]? =some (.stringIter ⟨s.toArray⟩ pos):=by
    rcases U with ⟨vs,ty,_,U⟩|⟨s',pos',e,h3,h4⟩
    .simp only [Aj,AE] at U
     obtain ⟨_,_,_,U,_⟩:=U
     exact U.elim
    .cases e;exact ⟨h3,h4⟩
   have hz:(⟨s.toArray⟩:ByteArray).size=s.length:=by simp [ByteArray.size]
   by_cases hp:pos<s.length
   .rw [decide_eq_true hp] at k
    have k:=Bg.1 k (AU (s.drop pos)).1 (AU (s.drop pos)).2 rfl
    have hlt:b<w.heap.size:=FO U.2
    let w':World:={w with heap:=w.heap.setIfInBounds b (.stringIter ⟨s.toArray⟩ (pos+(AU (s.drop pos)).2))}
    have hr:=h.kM (w':=w') (ob:=.stringIter ⟨s.toArray⟩ (pos+(AU (s.drop pos)).2)) (cs':=[.O9 s (pos+(AU (s.drop pos)).2)]) hb (by simp [w',hlt]) (.inr ⟨s,_,rfl,U.1,rfl⟩)
     (λx hx=>by simp [w',Array.getElem?_setIfInBounds,Ne.symm hx]) rfl rfl rfl (by simp [w'])
    refine AX hK (c:=.tuple #[.bool true,.int .i64 pos,.int .i32 ((AU (s.drop pos)).1:Nat)]) (w':=w') ?_ hr (A8.of ?_) k
    .have hx:a.eval x=.pointer (some ⟨b,0,none⟩):=hx
     have hp':pos<(⟨s.toArray⟩:ByteArray).size:=by rw [hz];exact hp
     simp only [execOp,ho,Instr.next,hx,Sem.run_bind,OS U.2,Result.andThen_ok,if_pos hp',Tw hp,Xo U.2,Sem.run_pure,goInt]
     rfl
    .simp only [AE]
     exact ⟨[.bool true,.int .i64 pos,.int .i32 ((AU (s.drop pos)).1:Nat)],rfl,by simp only [Aj,AE];exact ⟨_,_,rfl,rfl,_,_,rfl,rfl,_,_,rfl,rfl,rfl⟩⟩
   .rw [decide_eq_false hp] at k
    have k:=Bb.1 k
    refine AX hK (c:=.tuple #[.bool false]) (w':=w) ?_ h (A8.of ?_) k
    .have hx:a.eval x=.pointer (some ⟨b,0,none⟩):=hx
     have hp':¬pos<(⟨s.toArray⟩:ByteArray).size:=by rw [hz];exact hp
     simp only [execOp,ho,Instr.next,hx,Sem.run_bind,OS U.2,Result.andThen_ok,if_neg hp',Sem.run_pure]
    .simp only [AE]
     exact ⟨[.bool false],rfl,by simp only [Aj,AE];exact ⟨_,_,rfl,rfl,rfl⟩⟩
  .exact k.elim
 .exact k.elim
end
end Go.Aw
