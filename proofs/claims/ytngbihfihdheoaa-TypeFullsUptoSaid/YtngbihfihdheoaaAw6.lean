/-
  AW, PART 6. Each operation does what 'opWp' asks of it.
-/
import Derived.Test.YtngbihfihdheoaaAw5
set_option linter.unusedVariables false
set_option linter.unusedSimpArgs false
namespace Go.Aw
open Go

section
variable {D : List Deferred} {P : Program} {T : List (Nat × Ty)} {C : FuncId → List V → St → (Res → St → Prop) → Prop} {I0 I : Mem} {st0 st : St} {w0 w : World} {β : Nat → Option Nat} {env : Env} {a : Act}
variable {o : Oper} {K : V → Env → St → Prop} {Q : AExit → Env → St → Prop} {next : Act → World → Prop} {Qc : Exit → Act → World → Prop}

theorem rep_bool {b : Bool} {c : Value} (h : RepT I β (.bool b) c) : c = .bool b := by have := h; simpa only [RepT, Rep] using this
theorem rep_int {k : IntKind} {n : Int} {c : Value} (h : RepT I β (.int k n) c) : c = .int k n := by have := h; simpa only [RepT, Rep] using this
theorem rep_str {s : List UInt8} {c : Value} (h : RepT I β (.str s) c) : c = .string ⟨s.toArray⟩ ∧ s.length < lim := by have := h; simpa only [RepT, Rep] using this
theorem rep_ptr {b off : Nat} {c : Value} (h : RepT I β (.ptr b off) c) : c = .pointer (some ⟨b, off, none⟩) := by have := h; simpa only [RepT, Rep] using this
theorem rep_lptr {id off : Nat} {c : Value} (h : RepT I β (.lptr id off) c) : ∃ b, β id = some b ∧ c = .pointer (some ⟨b, off, none⟩) := h
theorem rep_eptr {e : List V} {off : Nat} {c : Value} (h : RepT I β (.eptr e off) c) : ∃ b o, c = .pointer (some ⟨b, o + off, none⟩) ∧ RepC I b o e := by have := h; simpa only [RepT, Rep] using this
theorem rep_slice {sz : Nat} {es : List (List V)} {own : Own} {c : Value} (h : RepT I β (.slice sz es own) c) : ∃ ad cap, c = .slice ad es.length cap ∧ es.length ≤ cap ∧ es.length < lim ∧ 0 < sz ∧ OwnOk I sz es.length cap ad own ∧
      (match ad with | none => cap = 0 | some ad => (cap = 0 ∨ ad.spot = none) ∧ RepE I sz ad.block ad.off es) := by
  have h' : Rep I (.slice sz es own) c := h
  simp only [Rep] at h'
  obtain ⟨ad, cap, h1, h2, h3, h4, h5, h6⟩ := h'
  refine ⟨ad, cap, h1, h2, h3, h4, h5, ?_⟩
  cases ad <;> exact h6

theorem sound_move {x : Operand} (hT : TOk P T) (hK : Takes D I0 st0 w0 β env.nxt a o.dst next K) (h : Rel D I0 st0 w0 I β env st a w) (ho : o.op = .move x ∨ o.op = .assign x)
    (k : (env.evalT T o.type x).force fun v => K v env st) : o.wp P a w next Qc := by
  refine op_value hK (c := a.eval x) (w' := w) ?_ h (h.f.evalT hT o.type x) (V.force_iff.1 k)
  rcases ho with ho | ho <;> simp only [execOp, ho] <;> rfl

theorem sound_pick {c x y : Operand} (hT : TOk P T) (hK : Takes D I0 st0 w0 β env.nxt a o.dst next K) (h : Rel D I0 st0 w0 I β env st a w) (ho : o.op = .pick c x y)
    (k : match env.eval c with
      | .bool t => lit t ((env.evalT T o.type x).force fun v => K v env st) ((env.evalT T o.type y).force fun v => K v env st)
      | _ => False) : o.wp P a w next Qc := by
  have hc := h.f.eval c
  split at k
  · rename_i t he
    rw [he] at hc
    have hc := rep_bool hc
    cases t with
    | true =>
      have k : (env.evalT T o.type x).force fun v => K v env st := k
      refine op_value hK (c := a.eval x) (w' := w) ?_ h (h.f.evalT hT o.type x) (V.force_iff.1 k)
      simp only [execOp, ho, hc]; rfl
    | false =>
      have k : (env.evalT T o.type y).force fun v => K v env st := k
      refine op_value hK (c := a.eval y) (w' := w) ?_ h (h.f.evalT hT o.type y) (V.force_iff.1 k)
      simp only [execOp, ho, hc]; rfl
  · exact k.elim

theorem alloc_run {t : TypeId} {ty : Ty} (hT : TOk P T) (I : Mem) (w : World) (a : Act) (ht : assoc T t = some ty) (ho : o.op = .alloc t) :
    ∃ vs : List Value, RepL I ty.zero.cells vs ∧ (execOp a.eval o).run P w = .ok (.value (.pointer (some ⟨w.heap.size, 0, none⟩))) (w.alloc (.cells vs.toArray t)) := by
  have hz : ∃ (i : TypeInfo) (c : Value), P.info? t = some i ∧ i.zero = some c ∧ RepL I ty.zero.cells c.cells.toList := by
    have hty := hT t ty ht
    cases ty with
    | struct offs z =>
      obtain ⟨i, fields, zs, h1, h2, h3, h4, h5, _⟩ := hty
      exact ⟨i, _, h1, h4, RepL.mono (Mem.empty_le I) _ _ h5⟩
    | sc z =>
      obtain ⟨i, d, c, h1, h2, h3, h4, h5, h6, h7, h8, h9, _⟩ := hty
      exact ⟨i, c, h1, h5, rep_cells (Rep.mono (Mem.empty_le I) _ _ h6) h8⟩
    | slice e sz b =>
      obtain ⟨i, j, c, h1, h2, h3, h4, h5, h6, h7, h8, _⟩ := hty
      exact ⟨i, _, h1, h4, rep_cells (rep_nil h8 _ (.inl rfl)) rfl⟩
  obtain ⟨i, c, h1, h2, h3⟩ := hz
  refine ⟨_, h3, ?_⟩
  simp only [execOp, ho, Instr.alloc, Sem.run_bind, run_zeroValue' h1 h2, Result.andThen_ok, newVar, newRow, run_newObj, Sem.run_pure, World.alloc_eq, Array.toArray_toList]
theorem box_run {t : TypeId} {x : Operand} (w : World) (a : Act) (ho : o.op = .box t x) :
    (execOp a.eval o).run P w = .ok (.value (.pointer (some ⟨w.heap.size, 0, none⟩))) (w.alloc (.cells (a.eval x).cells.toList.toArray t)) := by
  simp only [execOp, ho, Instr.box, Sem.run_bind, Result.andThen_ok, newVar, newRow, run_newObj, Sem.run_pure, World.alloc_eq, Array.toArray_toList]

theorem sound_alloc {t : TypeId} (hT : TOk P T) (hK : Takes D I0 st0 w0 β env.nxt a o.dst next K) (h : Rel D I0 st0 w0 I β env st a w) (ho : o.op = .alloc t)
    (k : match assoc T t with | some ty => newBox env st o.dst ty.zero.cells K | none => False) : o.wp P a w next Qc := by
  split at k
  · rename_i ty ht
    obtain ⟨vs, h3, hr⟩ := alloc_run (P := P) hT I w a ht ho
    unfold Oper.wp
    rw [hr]
    exact newBox_sound hK h h3 t k
  · exact k.elim

theorem sound_box {t : TypeId} {x : Operand} (hT : TOk P T) (hK : Takes D I0 st0 w0 β env.nxt a o.dst next K) (h : Rel D I0 st0 w0 I β env st a w) (ho : o.op = .box t x)
    (k : (env.evalT T t x).force fun v => chk v.known (newBox env st o.dst v.cells K)) : o.wp P a w next Qc := by
  obtain ⟨hk, k⟩ := chk_iff.1 (V.force_iff.1 k)
  have hv := (h.f.evalT hT t x).rep (known_plain hk)
  unfold Oper.wp
  rw [box_run w a ho]
  exact newBox_sound hK h (rep_cells hv hk) t k

theorem heap_cell {w : World} {b : Nat} {vs : List Value} {ty : TypeId} (hb : w.heap[b]? = some (.cells vs.toArray ty (0, 0))) {j : Nat} {v : Value} (hv : vs[j]? = some v) : w.cell? ⟨b, j, none⟩ = some v := by
  simp only [World.cell?, hb]
  simpa using hv
theorem repC_cells : ∀ {l : List V} {b o : Nat}, RelS I st w → RepC I b o l → ∃ vs, RepL I l vs ∧ ∀ j v, vs[j]? = some v → w.cell? ⟨b, o + j, none⟩ = some v
  | [], b, o, hs, k => ⟨[], by simp only [RepL], fun j v e => by simp at e⟩
  | u :: r, b, o, hs, k => by
    simp only [RepC] at k
    obtain ⟨⟨c, h1, h2⟩, k2⟩ := k
    obtain ⟨vs, h3, h4⟩ := repC_cells hs k2
    refine ⟨c :: vs, by simp only [RepL]; exact ⟨c, vs, rfl, h2, h3⟩, fun j v e => ?_⟩
    cases j with
    | zero => simp at e; subst e; exact hs.cell _ _ _ h1
    | succ j =>
      simp at e
      rw [show o + (j + 1) = o + 1 + j by omega]
      exact h4 j v e

theorem sound_load {t : TypeId} {x : Operand} (hT : TOk P T) (hK : Takes D I0 st0 w0 β env.nxt a o.dst next K) (h : Rel D I0 st0 w0 I β env st a w) (ho : o.op = .load t x)
    (k : match env.eval x with
    | .lptr id off => match assoc env.boxes id with
      | some cs => loadFrom cs off (assoc T t) (fun v => K v env st)
      | none => False
    | .ptr b off => ∃ cs, st.box b = some cs ∧ loadFrom cs off (assoc T t) (fun v => K v env st)
    | .eptr e off => loadFrom e off (assoc T t) (fun v => K v env st)
    | _ => False) : o.wp P a w next Qc := by
  have hx := h.f.eval x
  have fin : ∀ {ad : Addr} {c : Value} {v : V}, a.eval x = .pointer (some ad) → (loadVar t ad).run P w = .ok c w → Rep I v c → K v env st → o.wp P a w next Qc := by
    intro ad c v e1 e2 e3 e4
    refine op_value hK (c := c) (w' := w) ?_ h (RepT.of e3) e4
    simp only [execOp, ho, Instr.loadAt, e1, Instr.sureAddr, Sem.run_bind, Sem.run_pure, Result.andThen_ok, e2]
  split at k
  · rename_i id off he
    rw [he] at hx
    obtain ⟨b, hb, hx⟩ := rep_lptr hx
    split at k
    · rename_i cs hcs
      obtain ⟨b', vs, ty, h1, h2, h3⟩ := h.f.box id cs hcs
      rw [hb] at h1
      injection h1 with h1
      subst h1
      obtain ⟨v, c, g1, g2, g3⟩ := loadFrom_sound (b := b) (o := 0) hT h3 (fun j v e => by simpa using heap_cell h2 e) k
      rw [Nat.zero_add] at g1
      exact fin hx g1 g2 g3
    · exact k.elim
  · rename_i b off he
    rw [he] at hx
    have hx := rep_ptr hx
    obtain ⟨cs, hcs, k⟩ := k
    obtain ⟨vs, ty, h2, h3⟩ := h.s.box b cs hcs
    obtain ⟨v, c, g1, g2, g3⟩ := loadFrom_sound (b := b) (o := 0) hT h3 (fun j v e => by simpa using heap_cell h2 e) k
    rw [Nat.zero_add] at g1
    exact fin hx g1 g2 g3
  · rename_i e off he
    rw [he] at hx
    obtain ⟨b, o', hx, hc⟩ := rep_eptr hx
    obtain ⟨vs, h3, h4⟩ := repC_cells h.s hc
    obtain ⟨v, c, g1, g2, g3⟩ := loadFrom_sound hT h3 h4 k
    exact fin hx g1 g2 g3
  · exact k.elim

theorem ty_size {t : TypeId} {ty : Ty} (h : TyOk P t ty) : ∃ i, P.info? t = some i ∧ i.size = ty.zero.cells.length := by
  cases ty with
  | struct offs z => obtain ⟨i, fields, zs, h1, h2, h3, _⟩ := h; exact ⟨i, h1, h3⟩
  | sc z => obtain ⟨i, d, c, h1, h2, h3, h4, h5, h6, h7, h8, h9, _⟩ := h; exact ⟨i, h1, by rw [h4]; show 1 = z.cells.length; rw [h9]; rfl⟩
  | slice e sz b => obtain ⟨i, j, c, h1, h2, h3, _⟩ := h; exact ⟨i, h1, h3⟩

theorem storeTo_sound {t : TypeId} {ty : Ty} (hty : TyOk P t ty) {cs : List V} {vs : List Value} {b off : Nat} {v : V} {c : Value} {ety : TypeId} {K : List V → Prop}
    (hb : w.heap[b]? = some (.cells vs.toArray ety (0, 0))) (hk : RepL I cs vs) (hv : Rep I v c) (hkn : v.known = true) (hsz : v.cells.length = ty.zero.cells.length) (k : storeTo cs off v.cells K) :
    ∃ cs' us, (storeVar t ⟨b, off, none⟩ c).run P w = .ok () (w.setRow b us.toArray) ∧ RepL I cs' us ∧ K cs' := by
  unfold storeTo at k
  obtain ⟨h1, k⟩ := chk_iff.1 k
  obtain ⟨h2, k⟩ := chk_iff.1 k
  have k := forceL_iff.1 k
  have h1 := Nat.le_of_ble_eq_true h1
  have hc := rep_cells hv hkn
  have hlc := RepL.length hc
  have hlv := RepL.length hk
  obtain ⟨i, hi, hs⟩ := ty_size hty
  refine ⟨_, _, ?_, RepL.append (RepL.append (RepL.take off hk) hc) (RepL.drop (off + v.cells.length) hk), k⟩
  have hrun := run_storeCells_at P b off ety c.cells.toList 0 vs.toArray w hb (by simp; simp at hlc; omega) (sc_all hc h2)
  have hcs : c.cells.size = i.size := by rw [hs, ← hsz, hlc, Array.length_toList]
  simp only [storeVar, Sem.run_bind, run_sizeOf' hi, Result.andThen_ok, hcs, ne_eq, not_true_eq_false, if_false, Sem.run_pure, hrun, Nat.add_zero]
  congr 4
  rw [hlc]

theorem sound_store {t : TypeId} {x y : Operand} (hT : TOk P T) (hK : Takes D I0 st0 w0 β env.nxt a o.dst next K) (h : Rel D I0 st0 w0 I β env st a w) (ho : o.op = .store t x y)
    (k : match env.eval x with
    | .lptr id off => match assoc env.boxes id, assoc T t with
      | some cs, some ty => match env with
        | ⟨ts, bs, n, sz, gl⟩ => (Env.evalT T ⟨ts, bs, n, sz, gl⟩ t y).force fun v => chk (v.known && Nat.beq v.cells.length ty.zero.cells.length)
          (storeTo cs off v.cells fun cs' => K .junk ⟨ts, (id, cs') :: bs, n, sz, gl⟩ st)
      | _, _ => False
    | .ptr b off => match assoc T t with
      | some ty => ∃ cs, st.box b = some cs ∧ (env.evalT T t y).force fun v => chk (v.known && Nat.beq v.cells.length ty.zero.cells.length)
          (storeTo cs off v.cells fun cs' => K .junk env (st.setBox b cs'))
      | none => False
    | _ => False) : o.wp P a w next Qc := by
  have hx := h.f.eval x
  have hy := h.f.evalT hT t y
  have fin : ∀ {ad : Addr} {w' : World}, a.eval x = .pointer (some ad) → (storeVar t ad (a.eval y)).run P w = .ok () w' → (execOp a.eval o).run P w = .ok .skip w' := by
    intro ad w' e1 e2
    simp only [execOp, ho, Instr.storeAt, e1, Instr.sureAddr, Sem.run_bind, Sem.run_pure, Result.andThen_ok, e2]
  split at k
  · rename_i id off he
    rw [he] at hx
    obtain ⟨b, hb, hx⟩ := rep_lptr hx
    split at k
    · rename_i cs ty hcs hty
      obtain ⟨b', vs, ety, h1, h2, h3⟩ := h.f.box id cs hcs
      rw [hb] at h1
      injection h1 with h1
      subst h1
      have k := V.force_iff.1 k
      obtain ⟨hkn, k⟩ := chk_iff.1 k
      simp only [Bool.and_eq_true] at hkn
      obtain ⟨cs', us, g1, g2, g3⟩ := storeTo_sound (hT t ty hty) h2 h3 (hy.rep (known_plain hkn.1)) hkn.1 (Nat.eq_of_beq_eq_true hkn.2) k
      exact op_skip hK (fin hx g1) (h.storeLocal (cs := cs) hb h2 g2) g3
    · exact k.elim
  · rename_i b off he
    rw [he] at hx
    have hx := rep_ptr hx
    split at k
    · rename_i ty hty
      obtain ⟨cs, hcs, k⟩ := k
      obtain ⟨vs, ety, h2, h3⟩ := h.s.box b cs hcs
      have k := V.force_iff.1 k
      obtain ⟨hkn, k⟩ := chk_iff.1 k
      simp only [Bool.and_eq_true] at hkn
      obtain ⟨cs', us, g1, g2, g3⟩ := storeTo_sound (hT t ty hty) h2 h3 (hy.rep (known_plain hkn.1)) hkn.1 (Nat.eq_of_beq_eq_true hkn.2) k
      exact op_skip hK (fin hx g1) (h.storeGlobal hcs h2 g2) g3
    · exact k.elim
  · exact k.elim

theorem sound_nilCheck {x : Operand} (hK : Takes D I0 st0 w0 β env.nxt a o.dst next K) (h : Rel D I0 st0 w0 I β env st a w) (ho : o.op = .nilCheck x)
    (k : match env.eval x with
    | .lptr id off => K (.lptr id off) env st
    | .ptr b off => K (.ptr b off) env st
    | .eptr e off => K (.eptr e off) env st
    | _ => False) : o.wp P a w next Qc := by
  have hx := h.f.eval x
  split at k
  · rename_i id off he
    rw [he] at hx
    obtain ⟨b, hb, hx'⟩ := rep_lptr hx
    exact op_value hK (c := a.eval x) (w' := w) (by simp only [execOp, ho, hx']; rfl) h hx k
  · rename_i b off he
    rw [he] at hx
    have hx' := rep_ptr hx
    exact op_value hK (c := a.eval x) (w' := w) (by simp only [execOp, ho, hx']; rfl) h hx k
  · rename_i e off he
    rw [he] at hx
    obtain ⟨b, o', hx', _⟩ := rep_eptr hx
    exact op_value hK (c := a.eval x) (w' := w) (by simp only [execOp, ho, hx']; rfl) h hx k
  · exact k.elim

theorem sound_fieldAddr {t : TypeId} {x : Operand} {f : Nat} (hT : TOk P T) (hK : Takes D I0 st0 w0 β env.nxt a o.dst next K) (h : Rel D I0 st0 w0 I β env st a w) (ho : o.op = .fieldAddr t x f)
    (k : match assoc T t, env.eval x with
    | some (.struct offs _), .lptr id off => match offs[f]? with | some (o, s) => chk (Nat.blt 0 s) (K (.lptr id (off + o)) env st) | none => False
    | some (.struct offs _), .ptr b off => match offs[f]? with | some (o, s) => chk (Nat.blt 0 s) (K (.ptr b (off + o)) env st) | none => False
    | some (.struct offs _), .eptr e off => match offs[f]? with | some (o, s) => chk (Nat.blt 0 s) (K (.eptr e (off + o)) env st) | none => False
    | _, _ => False) : o.wp P a w next Qc := by
  have hx := h.f.eval x
  have fin : ∀ {offs : List (Nat × Nat)} {z : List V} {b off o' s : Nat}, assoc T t = some (.struct offs z) → offs[f]? = some (o', s) → 0 < s → a.eval x = .pointer (some ⟨b, off, none⟩) →
      (execOp a.eval o).run P w = .ok (.value (.pointer (some ⟨b, off + o', none⟩))) w := by
    intro offs z b off o' s ht hf hs e
    obtain ⟨i, fields, zs, h1, h2, h3, h4, h5, h6, h7, _⟩ := hT t _ ht
    obtain ⟨fl, j, g1, g2, g3, g4⟩ := h7 f o' s hf
    have hne : ¬ j.size = 0 := by omega
    simp only [execOp, ho, Instr.fieldAt, Sem.run_bind, run_underlying' h2, Result.andThen_ok, g1, e, Instr.sureAddr, Sem.run_pure, fieldPlace, run_sizeOf' g3, Sem.run_ite]
    rw [if_neg hne]
    simp only [Result.andThen_ok, add_lit', g2]
  split at k
  · rename_i offs z id off ht he
    rw [he] at hx
    obtain ⟨b, hb, hx⟩ := rep_lptr hx
    split at k
    · rename_i o' s hf
      obtain ⟨hs, k⟩ := chk_iff.1 k
      exact op_value hK (fin ht hf (by simpa [Nat.blt_eq] using hs) hx) h (show RepT I β (.lptr id (off + o')) _ from ⟨b, hb, rfl⟩) k
    · exact k.elim
  · rename_i offs z b off ht he
    rw [he] at hx
    have hx := rep_ptr hx
    split at k
    · rename_i o' s hf
      obtain ⟨hs, k⟩ := chk_iff.1 k
      exact op_value hK (fin ht hf (by simpa [Nat.blt_eq] using hs) hx) h (RepT.of (by simp only [Rep])) k
    · exact k.elim
  · rename_i offs z e off ht he
    rw [he] at hx
    obtain ⟨b, o1, hx, hc⟩ := rep_eptr hx
    split at k
    · rename_i o' s hf
      obtain ⟨hs, k⟩ := chk_iff.1 k
      exact op_value hK (fin ht hf (by simpa [Nat.blt_eq] using hs) hx) h (RepT.of (by simp only [Rep]; exact ⟨b, o1, by rw [Nat.add_assoc], hc⟩)) k
    · exact k.elim
  · exact k.elim
end
end Go.Aw
