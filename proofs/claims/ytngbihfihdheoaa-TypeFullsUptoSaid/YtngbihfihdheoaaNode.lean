/-
  PLAIN DATA: a tree of api.Nd, as a value; what the walks use again and again.
-/
import Derived.Test.YtngbihfihdheoaaAw11
import Derived.IntWalk
set_option linter.unusedVariables false
namespace Go.Aw
open Go

inductive Nd where
  | mk (kind form : Int) (text : List UInt8) (line col : Int) (kids : List Nd)

namespace Nd
def kind : Nd → Int | .mk k _ _ _ _ _ => k
def form : Nd → Int | .mk _ f _ _ _ _ => f
def text : Nd → List UInt8 | .mk _ _ t _ _ _ => t
def line : Nd → Int | .mk _ _ _ l _ _ => l
def col : Nd → Int | .mk _ _ _ _ c _ => c
def kids : Nd → List Nd | .mk _ _ _ _ _ ks => ks
end Nd

mutual
def encR : Nd → List V
  | .mk k f t l c ks => [.int .i64 k, .int .i64 f, .str t, .int .i64 l, .int .i64 c, .slice 6 (encs ks) .any]
def encs : List Nd → List (List V)
  | [] => []
  | n :: r => encR n :: encs r
end
/-- a tree's cells -/
def encN (n : Nd) : List V := [.int .i64 n.kind, .int .i64 n.form, .str n.text, .int .i64 n.line, .int .i64 n.col, .slice 6 (encs n.kids) .any]
def enc (n : Nd) : V := .agg (encN n)
theorem encR_eq (n : Nd) : encR n = encN n := by cases n; rfl
theorem encs_map (ks : List Nd) : encs ks = ks.map encN := by
  induction ks with
  | nil => rfl
  | cons n r ih => simp only [encs, encR_eq, ih, List.map_cons]
theorem encs_length (ks : List Nd) : (encs ks).length = ks.length := by rw [encs_map, List.length_map]
theorem encs_get (ks : List Nd) (i : Nat) : (encs ks)[i]? = ks[i]?.map encN := by rw [encs_map, List.getElem?_map]
theorem encs_drop (ks : List Nd) (i : Nat) : (encs ks).drop i = encs (ks.drop i) := by rw [encs_map, encs_map, List.map_drop]
theorem encs_take (ks : List Nd) (i : Nat) : (encs ks).take i = encs (ks.take i) := by rw [encs_map, encs_map, List.map_take]
theorem encs_append (a b : List Nd) : encs (a ++ b) = encs a ++ encs b := by rw [encs_map, encs_map, encs_map, List.map_append]

mutual
def Nd.size : Nd → Nat
  | .mk _ _ _ _ _ ks => 1 + sizes ks
def sizes : List Nd → Nat
  | [] => 0
  | n :: r => n.size + sizes r
end
theorem size_mem : ∀ {l : List Nd} {x : Nd}, x ∈ l → x.size ≤ sizes l
  | y :: r, x, h => by
    rw [sizes]
    rcases List.mem_cons.1 h with rfl | h
    · omega
    · have := size_mem h; omega
theorem size_kid {n x : Nd} (h : x ∈ n.kids) : x.size < n.size := by
  cases n with
  | mk a b c d e ks =>
    have := size_mem (show x ∈ ks from h)
    rw [Nd.size]; omega
/-- a kid's place -/
theorem at_kid {ks : List Nd} {i : Int} {K : List V → Prop} (h0 : 0 ≤ i) (h1 : i < ks.length) (k : ∀ x, ks[i.toNat]? = some x → x ∈ ks → K (encN x)) : 0 ≤ i ∧ ∃ e, (encs ks)[i.toNat]? = some e ∧ K e := by
  have hlt : i.toNat < ks.length := by omega
  refine ⟨h0, encN ks[i.toNat], ?_, k _ (List.getElem?_eq_getElem hlt) (List.getElem_mem hlt)⟩
  rw [encs_get, List.getElem?_eq_getElem hlt]; rfl
theorem len_kids {ks : List Nd} {K : Nat → Prop} (k : ks.length < 4611686018427387904 → K ks.length) : ∀ m, m = (encs ks).length → m < lim → K m := fun m hm h => by
  rw [encs_length] at hm; subst hm; exact k h
theorem slice_kids {ks : List Nd} {l h : Int} {K : List (List V) → Prop} (h0 : 0 ≤ l) (h1 : l ≤ h) (h2 : h ≤ ks.length) (k : K (encs ((ks.take h.toNat).drop l.toNat))) :
    (0 ≤ l ∧ l ≤ h ∧ h ≤ (encs ks).length) ∧ ∀ es', es' = (((encs ks).take h.toNat).drop l.toNat) → K es' := by
  refine ⟨⟨h0, h1, by rw [encs_length]; exact h2⟩, fun es' e => ?_⟩
  rw [encs_take, encs_drop] at e; subst e; exact k
/-- the same without a bound above -/
theorem tail_kids {ks : List Nd} {l : Int} {K : List (List V) → Prop} (h0 : 0 ≤ l) (h1 : l ≤ ks.length) (k : K (encs (ks.drop l.toNat))) :
    (0 ≤ l ∧ l ≤ ((encs ks).length : Int) ∧ ((encs ks).length : Int) ≤ (encs ks).length) ∧ ∀ es', es' = (((encs ks).take (((encs ks).length : Int)).toNat).drop l.toNat) → K es' := by
  refine ⟨⟨h0, by rw [encs_length]; exact h1, Int.le_refl _⟩, fun es' e => ?_⟩
  rw [Int.toNat_natCast, List.take_length, encs_drop] at e; subst e; exact k

theorem wrap_id {a : Int} (h1 : -9223372036854775808 ≤ a) (h2 : a ≤ 9223372036854775807) : IntKind.i64.wrap a = a := IntWalk.i64_in _ ⟨h1, h2⟩

/-- a sum that does not wrap -/
theorem ex_wrap {a : Int} {K : Int → Prop} (h1 : -9223372036854775808 ≤ a) (h2 : a ≤ 9223372036854775807) (k : K a) : ∃ r, r = IntKind.i64.wrap a ∧ K r := ⟨a, (wrap_id h1 h2).symm, k⟩
theorem bcase_len {m : Nat} {a : Int} {p q : Prop} (h0 : 0 ≤ a) (h : m = a.toNat → p) (k : ¬ m = a.toNat → q) : bcase ((m : Int) == a) p q :=
  bcase_intro (fun e => h (by have := eq_of_beq e; omega)) (fun e => k (fun x => by
    have : (m : Int) = a := by omega
    rw [this, beq_self_eq_true] at e; cases e))
theorem int_len {m k : Nat} : ((m : Int) = (@OfNat.ofNat Int k instOfNat)) ↔ m = k := by
  show ((m : Int) = (k : Int)) ↔ _
  omega

theorem quo_step {a b : Int} {K : Int → Prop} (hb : 0 < b) (h0 : 0 ≤ a) (h1 : a ≤ 4611686018427387904) (k : K (a / b)) : b ≠ 0 ∧ ∃ r, r = IntKind.i64.wrap (a.tdiv b) ∧ K r := by
  have e : a.tdiv b = a / b := Int.tdiv_eq_ediv_of_nonneg h0
  have h2 : a / b ≤ a := Int.ediv_le_self b h0
  have h3 : 0 ≤ a / b := Int.ediv_nonneg h0 (by omega)
  exact ⟨by omega, _, (by rw [e, wrap_id (by omega) (by omega)]), k⟩
theorem rem_step {b : Int} {p : Prop} (h : b ≠ 0) (k : p) : b ≠ 0 ∧ p := ⟨h, k⟩

/-- a kid that is known -/
theorem at_known {ks : List Nd} {i : Int} {x : Nd} {K : List V → Prop} (h : ks[i.toNat]? = some x) (h0 : 0 ≤ i) (k : K (encN x)) : 0 ≤ i ∧ ∃ e, (encs ks)[i.toNat]? = some e ∧ K e :=
  ⟨h0, encN x, by rw [encs_get, h]; rfl, k⟩
theorem el_known {es : List (List V)} {i : Int} {x : List V} {K : List V → Prop} (h : es[i.toNat]? = some x) (h0 : 0 ≤ i) (k : K x) : 0 ≤ i ∧ ∃ e, es[i.toNat]? = some e ∧ K e := ⟨h0, x, h, k⟩

/-- a region whose order is open -/
theorem draw_step {k : Nat} {l : List Oper} {L : List (Option Nat)} {p : Prop} (h : (drawOK k l && nodupO L) = true) (q : p) : (drawOK k l && nodupO L) = true ∧ p := ⟨h, q⟩
theorem draw_head {p q : Prop} (h : p) : p ∨ q := .inl h
/-- a region whose order is open, told in one order; L: the boxes that it writes -/
theorem draw_mix {p : Prop} {T : List (Nat × Ty)} {C : FuncId → List V → St → (Res → St → Prop) → Prop} {all : List Oper} {Q : AExit → Env → St → Prop} {env : Env} {st : St} (sched : List (Nat × Bool)) (L : List Nat) (h : mixOK sched all = true) (k : mixWp T C all L (dropIds (L.map some) env.boxes) Q sched env st) :
    p ∨ ∃ (sched : List (Nat × Bool)) (L : List Nat), mixOK sched all = true ∧ mixWp T C all L (dropIds (L.map some) env.boxes) Q sched env st := .inr ⟨sched, L, h, k⟩
theorem quiet_go {T : List (Nat × Ty)} {C : FuncId → List V → St → (Res → St → Prop) → Prop} {all : List Oper} {o : Oper} {b0 : List (Nat × List V)} {env : Env} {st : St} {K : V → Prop} (v : V) (h : quietWp T C all o b0 env st v) (k : v.part K) :
    ∃ v, quietWp T C all o b0 env st v ∧ v.part K := ⟨v, h, k⟩
theorem quiet_same {v : V} {e : Env} {s : St} : v = v ∧ e = e ∧ s = s := ⟨rfl, rfl, rfl⟩
theorem quiet_bool {b : Bool} {e : Env} {s : St} : bcase b (V.bool true = .bool b ∧ e = e ∧ s = s) (V.bool false = .bool b ∧ e = e ∧ s = s) := by
  cases b
  · exact bcase_false quiet_same
  · exact bcase_true quiet_same
theorem quiet_not {b : Bool} {e : Env} {s : St} : bcase b (V.bool false = .bool (!b) ∧ e = e ∧ s = s) (V.bool true = .bool (!b) ∧ e = e ∧ s = s) := by
  cases b
  · exact bcase_false quiet_same
  · exact bcase_true quiet_same

/-- some slots of a frame, and some new ones ahead of them -/
noncomputable def Env.ts (env : Env) (ch : List (Nat × V)) (keep : List Nat) : List (Nat × V) :=
  List.rec (motive := fun _ => List (Nat × V)) (List.rec (motive := fun _ => List (Nat × V)) [] (fun t _ ih => (t, env.get t) :: ih) keep) (fun p _ ih => p :: ih) ch
noncomputable def Env.at (env : Env) (ch : List (Nat × V)) (keep : List Nat) : Env := match env with
  | ⟨ts, bs, n, sz, gl⟩ => ⟨Env.ts ⟨ts, bs, n, sz, gl⟩ ch keep, [], n, sz, gl⟩

/-- a loop that counts up to a bound -/
theorem loop_n {ih : (AExit → Env → St → Prop) → Env → St → Prop} {Q : AExit → Env → St → Prop} {env : Env} {st : St} (i : Nat) (keep : List Nat) (m : Nat) (J : Nat → Prop) (h0 : J 0)
    (he : (env.at [(i, .int .i64 ((0 : Nat) : Int))] keep).leC env)
    (hb : ∀ k : Nat, J k → ih (thenQ (fun env' st' => ∃ y, J y ∧ m - y < m - k ∧ (env.at [(i, .int .i64 (y : Int))] keep).leC env' ∧ St.le st st') Q) (env.at [(i, .int .i64 (k : Int))] keep) st) :
    ∃ (α : Type) (E : α → Env) (S : α → St) (J : α → Prop) (μ : α → Nat) (x0 : α), J x0 ∧ (E x0).leC env ∧ St.le (S x0) st ∧
      ∀ x, J x → ih (thenQ (fun env' st' => ∃ y, J y ∧ μ y < μ x ∧ (E y).leC env' ∧ St.le (S y) st') Q) (E x) (S x) :=
  ⟨Nat, fun k => env.at [(i, .int .i64 (k : Int))] keep, fun _ => st, J, fun k => m - k, 0, h0, he, St.le_refl _, hb⟩
/-- the next round -/
theorem next_n {env env' : Env} {st : St} {i : Nat} {keep : List Nat} {m k : Nat} {J : Nat → Prop} (h : J (k + 1)) (hk : k < m)
    (he : (env.at [(i, .int .i64 ((k + 1 : Nat) : Int))] keep).leC env') : ∃ y, J y ∧ m - y < m - k ∧ (env.at [(i, .int .i64 (y : Int))] keep).leC env' ∧ St.le st st :=
  ⟨k + 1, h, by omega, he, St.le_refl _⟩

theorem tmod2_one {k : Nat} : (k : Int).tmod 2 = 1 ↔ k % 2 = 1 := by
  rw [Int.tmod_eq_emod_of_nonneg (by omega)]; omega
theorem tmod2_zero {k : Nat} : (k : Int).tmod 2 = 0 ↔ k % 2 = 0 := by
  rw [Int.tmod_eq_emod_of_nonneg (by omega)]; omega
theorem drop_at {α : Type} {l : List α} {k : Nat} {x : α} (h : l[k]? = some x) : l.drop k = x :: l.drop (k + 1) := by
  obtain ⟨hk, rfl⟩ := List.getElem?_eq_some_iff.1 h
  exact List.drop_eq_getElem_cons hk

/-- the same, with some boxes -/
noncomputable def Env.bx (env : Env) (kb : List Nat) : List (Nat × List V) :=
  List.rec (motive := fun _ => List (Nat × List V)) [] (fun id _ ih => match assoc env.boxes id with | some cs => (id, cs) :: ih | none => ih) kb
noncomputable def Env.atb (env : Env) (ch : List (Nat × V)) (keep kb : List Nat) : Env := match env with
  | ⟨ts, bs, n, sz, gl⟩ => ⟨Env.ts ⟨ts, bs, n, sz, gl⟩ ch keep, Env.bx ⟨ts, bs, n, sz, gl⟩ kb, n, sz, gl⟩
theorem loop_nb {ih : (AExit → Env → St → Prop) → Env → St → Prop} {Q : AExit → Env → St → Prop} {env : Env} {st : St} (i : Nat) (keep kb : List Nat) (m : Nat) (J : Nat → Prop) (h0 : J 0)
    (he : (env.atb [(i, .int .i64 ((0 : Nat) : Int))] keep kb).leC env)
    (hb : ∀ k : Nat, J k → ih (thenQ (fun env' st' => ∃ y, J y ∧ m - y < m - k ∧ (env.atb [(i, .int .i64 (y : Int))] keep kb).leC env' ∧ St.le st st') Q) (env.atb [(i, .int .i64 (k : Int))] keep kb) st) :
    ∃ (α : Type) (E : α → Env) (S : α → St) (J : α → Prop) (μ : α → Nat) (x0 : α), J x0 ∧ (E x0).leC env ∧ St.le (S x0) st ∧
      ∀ x, J x → ih (thenQ (fun env' st' => ∃ y, J y ∧ μ y < μ x ∧ (E y).leC env' ∧ St.le (S y) st') Q) (E x) (S x) :=
  ⟨Nat, fun k => env.atb [(i, .int .i64 (k : Int))] keep kb, fun _ => st, J, fun k => m - k, 0, h0, he, St.le_refl _, hb⟩

/-- the same from another number on -/
theorem loop_s {ih : (AExit → Env → St → Prop) → Env → St → Prop} {Q : AExit → Env → St → Prop} {env : Env} {st : St} (i s : Nat) (keep kb : List Nat) (m : Nat) (J : Nat → Prop) (h0 : J s)
    (he : (env.atb [(i, .int .i64 (s : Int))] keep kb).leC env)
    (hb : ∀ k : Nat, J k → ih (thenQ (fun env' st' => ∃ y, J y ∧ m - y < m - k ∧ (env.atb [(i, .int .i64 (y : Int))] keep kb).leC env' ∧ St.le st st') Q) (env.atb [(i, .int .i64 (k : Int))] keep kb) st) :
    ∃ (α : Type) (E : α → Env) (S : α → St) (J : α → Prop) (μ : α → Nat) (x0 : α), J x0 ∧ (E x0).leC env ∧ St.le (S x0) st ∧
      ∀ x, J x → ih (thenQ (fun env' st' => ∃ y, J y ∧ μ y < μ x ∧ (E y).leC env' ∧ St.le (S y) st') Q) (E x) (S x) :=
  ⟨Nat, fun k => env.atb [(i, .int .i64 (k : Int))] keep kb, fun _ => st, J, fun k => m - k, s, h0, he, St.le_refl _, hb⟩

/-- the same, whatever changes from round to round -/
theorem loop_g {ih : (AExit → Env → St → Prop) → Env → St → Prop} {Q : AExit → Env → St → Prop} {env : Env} {st : St} {α : Type} (f : α → List (Nat × V)) (keep kb : List Nat) (S : α → St) (J : α → Prop) (μ : α → Nat) (x0 : α) (h0 : J x0)
    (he : (env.atb (f x0) keep kb).leC env) (hs : St.le (S x0) st)
    (hb : ∀ x, J x → ih (thenQ (fun env' st' => ∃ y, J y ∧ μ y < μ x ∧ (env.atb (f y) keep kb).leC env' ∧ St.le (S y) st') Q) (env.atb (f x) keep kb) (S x)) :
    ∃ (α : Type) (E : α → Env) (S : α → St) (J : α → Prop) (μ : α → Nat) (x0 : α), J x0 ∧ (E x0).leC env ∧ St.le (S x0) st ∧
      ∀ x, J x → ih (thenQ (fun env' st' => ∃ y, J y ∧ μ y < μ x ∧ (E y).leC env' ∧ St.le (S y) st') Q) (E x) (S x) :=
  ⟨α, fun k => env.atb (f k) keep kb, S, J, μ, x0, h0, he, hs, hb⟩

/-- rows of texts -/
def strs (l : List (List UInt8)) : List (List V) := l.map fun s => [V.str s]
theorem strs_append {l new : List (List UInt8)} {own : Own} {st : St} {K : V → St → Prop} (h : own.good st) (hb : l.length + new.length ≤ 1000000000)
    (k : ∀ own' : Own, own'.good st → K (.slice 1 (strs (l ++ new)) own') (own'.st st (l ++ new).length)) : appendTo 1 16 (strs l) own (strs new) (own.st st l.length) K := by
  have h0 : ∀ l, (strs l).length = l.length := fun l => by simp [strs]
  have h1 : ∀ l, (strs l).map (·.map V.wk0) = strs l := fun l => by simp only [strs, List.map_map]; rfl
  have := appendTo_own (sz := 1) (bytes := 16) (es := strs l) (new := strs new) (K := K) h (by rw [h0, h0]; omega) (by rw [h0, h0]; simp only [lim]; omega)
    (by simp [strs, V.sc]) (fun own' ho => by
      have := k own' ho
      rw [h0, h0, h1]
      rw [List.length_append] at this
      rw [Nat.mul_one, show strs l ++ strs new = strs (l ++ new) by simp [strs]]
      exact this)
  rw [h0, Nat.mul_one] at this
  exact this

/-- rows of numbers -/
def ints (l : List Int) : List (List V) := l.map fun n => [V.int .i64 n]

theorem bcase_eq {α : Type} [BEq α] [LawfulBEq α] {a b : α} {p q : Prop} (h : a = b → p) (k : ¬ a = b → q) : bcase (a == b) p q :=
  bcase_intro (fun e => h (eq_of_beq e)) (fun e => k (fun x => by subst x; rw [beq_self_eq_true] at e; cases e))
theorem bcase_dec {c : Prop} [Decidable c] {p q : Prop} (h : c → p) (k : ¬ c → q) : bcase (decide c) p q :=
  bcase_intro (fun e => h (of_decide_eq_true e)) (fun e => k (of_decide_eq_false e))

section
variable {R : Res → St → Prop} {st : St}
/-- the end of a walk -/
theorem fin {r r' : Res} (h : R r st) (e : r = r') : ∃ r2 st2, (r2 = r' ∨ r2 = r'.wk) ∧ St.le st2 st ∧ R r2 st2 := by subst e; exact ⟨r, st, .inl rfl, St.le_refl _, h⟩
theorem fin_bool {b b' : Bool} (h : R (.ret (.bool b)) st) (e : b = b') : ∃ r2 st2, (r2 = (.ret (.bool b')) ∨ r2 = (Res.ret (.bool b')).wk) ∧ St.le st2 st ∧ R r2 st2 := by subst e; exact fin h rfl
theorem fin_wk {r r' : Res} (h : R r st) (e : r = r'.wk) : ∃ r2 st2, (r2 = r' ∨ r2 = r'.wk) ∧ St.le st2 st ∧ R r2 st2 := by subst e; exact ⟨_, st, .inr rfl, St.le_refl _, h⟩
/-- the same, the results first -/
theorem finw {r r' : Res} (e : r = r'.wk) (h : R r st) : ∃ r2 st2, (r2 = r' ∨ r2 = r'.wk) ∧ St.le st2 st ∧ R r2 st2 := fin_wk h e
theorem finr {r r' : Res} (e : r = r') (h : R r st) : ∃ r2 st2, (r2 = r' ∨ r2 = r'.wk) ∧ St.le st2 st ∧ R r2 st2 := fin h e
end
end Go.Aw
