/-
  AW, PART 4. What a type's row says; each operation does what 'opWp' asks of it.
-/
import Derived.Test.YtngbihfihdheoaaAw3
import Derived.ChangeKeysEq
import Derived.Laws.StructEq
import Derived.Laws.Append
import Derived.Laws.AppendOwn
set_option linter.unusedVariables false
set_option linter.unusedSimpArgs false
namespace Go.Aw
open Go

def Mem.empty : Mem := ⟨fun _ _ => none, fun _ => none⟩
theorem Mem.empty_le (I : Mem) : Mem.empty.le I := ⟨fun _ _ _ h => (by cases h), fun _ _ h => (by cases h)⟩

/-- of several cells, as told -/
def aggD : TypeDesc → Bool
  | .struct _ | .array _ _ => true
  | _ => false

/-- a struct that may be held against another one, cell by cell -/
def eqOkB (P : Program) (t : TypeId) (z : List V) : Bool :=
  !P.stoodInHeld t && !P.eqGuardType P.depth t && match P.underlying t with
  | some (.struct fs) => fs.size == z.length && (List.range z.length).all fun i => match fs.toList[i]?, z[i]? with
    | some f, some v => f.name != "_" && f.offset == i && P.plainKey f.type && match v, P.underlying f.type with
      | .int _ _, some (.int _) => true
      | .str _, some .string => true
      | .bool _, some .bool => true
      | _, _ => false
    | _, _ => false
  | _ => false
/-- a type is as it is told -/
def TyOk (P : Program) (t : TypeId) : Ty → Prop
  | .sc z => ∃ i d c, P.info? t = some i ∧ P.underlying t = some d ∧ aggD d = false ∧ i.size = 1 ∧ i.zero = some c ∧ Rep Mem.empty z c ∧ c.cells = #[c] ∧ z.known = true ∧ z.cells = [z] ∧
      (match z with | .str _ => d = .string | .nili => ∃ ms, d = .interface ms | _ => ∀ ms, d ≠ .interface ms)
  | .slice e sz bytes => ∃ i j c, P.info? t = some i ∧ P.underlying t = some (.slice e) ∧ i.size = 1 ∧ i.zero = some (.slice none 0 0) ∧ P.info? e = some j ∧ j.size = sz ∧ j.bytes = bytes ∧ 0 < sz ∧ j.zero = some c ∧ c.cells.size = sz
  | .struct offs z => ∃ i fields, ∃ zs : List Value, P.info? t = some i ∧ P.underlying t = some (.struct fields) ∧ i.size = z.length ∧ i.zero = some (.agg zs.toArray) ∧ RepL Mem.empty z zs ∧ 
      fields.size = offs.length ∧ (∀ (n o s : Nat), offs[n]? = some (o, s) → ∃ (f : Field) (j : TypeInfo), (fields[n]? = some f ∧ f.offset = o ∧ P.info? f.type = some j ∧ j.size = s)) ∧
      (flatB z = true → eqOkB P t z = true)
def TOk (P : Program) (T : List (Nat × Ty)) : Prop := ∀ t ty, assoc T t = some ty → TyOk P t ty

section
variable {D : List Deferred} {P : Program} {T : List (Nat × Ty)} {I : Mem} {β : Nat → Option Nat} {env : Env} {st : St} {a : Act} {w : World} {B : Nat}

theorem RelF.get (h : RelF D B I β env st a w) (t : Nat) : RepT I β (env.get t) (a.tmps.getD t undef) := by
  simp only [Env.get]
  cases hh : assoc env.tmps t with
  | none => exact RepT.of (by simp only [Rep])
  | some v => exact h.tmps t v hh
theorem rep_const (c : Value) : Rep I (absConst c) c := by
  unfold absConst
  split
  · simp only [Rep]
  · simp only [Rep]
  · rename_i l
    split
    · rename_i h
      simp only [Rep]
      exact ⟨trivial, by simpa [Nat.blt_eq, lim] using h⟩
    · simp only [Rep]
  all_goals simp only [Rep]
theorem RelF.eval (h : RelF D B I β env st a w) (x : Operand) : RepT I β (env.eval x) (a.eval x) := by
  cases x with
  | tmp t => exact h.get t
  | const c => exact RepT.of (rep_const c)
  | global g => exact RepT.of (v := .junk) (by simp only [Rep])
  | func f => exact RepT.of (v := .func f [] []) (by simp only [Rep]; exact ⟨[], [], rfl, by simp only [RepL], by simp only [RepL]⟩)
theorem isNilSlice_eq {x : Operand} (h : isNilSlice x = true) : x = .const (.slice none 0 0) := by
  unfold isNilSlice at h
  split at h
  · rfl
  · cases h
theorem rep_nil {sz : Nat} (h : 0 < sz) (own : Own) (ho : own = .full ∨ own = .any) : Rep I (.slice sz [] own) (.slice none 0 0) := by
  simp only [Rep]
  exact ⟨none, 0, rfl, Nat.le_refl _, by simp [lim], h, by rcases ho with rfl | rfl; exact rfl; trivial, rfl⟩
theorem RelF.evalT (hT : TOk P T) (h : RelF D B I β env st a w) (t : TypeId) (x : Operand) : RepT I β (env.evalT T t x) (a.eval x) := by
  simp only [Env.evalT]
  cases hn : isNilSlice x with
  | false => exact h.eval x
  | true =>
    have := isNilSlice_eq hn
    subst this
    simp only
    split
    · rename_i e sz b ht
      obtain ⟨i, j, c, _, _, _, _, _, _, _, hsz, _⟩ := hT t _ ht
      exact RepT.of (rep_nil hsz _ (.inl rfl))
    · exact RepT.of (v := .junk) (by simp only [Rep])
theorem RepT.rep {v : V} {c : Value} (h : RepT I β v c) (k : v.plain = true) : Rep I v c := by
  cases v <;> first | exact h | cases k

/-- the run of a scalar's load -/
theorem run_underlying' {t : TypeId} {d : TypeDesc} (h : P.underlying t = some d) : (underlying t).run P w = .ok d w := run_underlying h w
theorem run_isAgg {t : TypeId} {d : TypeDesc} (h : P.underlying t = some d) : (isAgg t).run P w = .ok (aggD d) w := by
  simp only [isAgg, Sem.run_bind, run_underlying' h, Result.andThen_ok]
  cases d <;> rfl
theorem run_sizeOf' {t : TypeId} {i : TypeInfo} (h : P.info? t = some i) : (sizeOf t).run P w = .ok i.size w := by
  simp [sizeOf, typeInfo, h]
theorem run_zeroValue' {t : TypeId} {i : TypeInfo} {z : Value} (h : P.info? t = some i) (hz : i.zero = some z) : (zeroValue t).run P w = .ok z w := by
  simp [zeroValue, typeInfo, h, hz]

/-- one cell's type -/
def Ty.one : Ty → Prop
  | .struct _ _ => False
  | _ => True
theorem TyOk.sc {t : TypeId} {ty : Ty} (h : TyOk P t ty) (k : ty.one) : ∃ i d c, P.info? t = some i ∧ P.underlying t = some d ∧ aggD d = false ∧ i.size = 1 ∧ i.zero = some c ∧ Rep Mem.empty ty.zero c ∧ c.cells = #[c] := by
  cases ty with
  | sc z =>
    obtain ⟨i, d, c, h1, h2, h3, h4, h5, h6, h7, _⟩ := h
    exact ⟨i, d, c, h1, h2, h3, h4, h5, h6, h7⟩
  | slice e sz b =>
    obtain ⟨i, j, c, h1, h2, h3, h4, h5, h6, h7, h8, _⟩ := h
    exact ⟨i, .slice e, .slice none 0 0, h1, h2, rfl, h3, h4, rep_nil h8 _ (.inl rfl), rfl⟩
  | struct _ _ => exact k.elim
theorem run_loadVar_sc {t : TypeId} {ty : Ty} (h : TyOk P t ty) (k : ty.one) {ad : Addr} {v : Value} (hv : w.cell? ad = some v) : (loadVar t ad).run P w = .ok v w := by
  obtain ⟨i, d, c, h1, h2, h3, _⟩ := h.sc k
  simp only [loadVar, Sem.run_bind, run_isAgg h2, h3, Result.andThen_ok, Bool.false_eq_true, if_false, run_load, hv]
theorem add_lit' (b o n : Nat) : (⟨b, o, none⟩ : Addr).add n = ⟨b, o + n, none⟩ := by unfold Addr.add; split <;> simp_all
theorem run_loadVar_struct {t : TypeId} {offs : List (Nat × Nat)} {z : List V} (h : TyOk P t (.struct offs z)) {b o : Nat} {vs : List Value} (hl : vs.length = z.length)
    (hv : ∀ j v, vs[j]? = some v → w.cell? ⟨b, o + j, none⟩ = some v) : (loadVar t ⟨b, o, none⟩).run P w = .ok (.agg vs.toArray) w := by
  obtain ⟨i, fields, zs, h1, h2, h3, _⟩ := h
  have hc := run_loadCells_list (P := P) w ⟨b, o, none⟩ vs (fun j v e => by rw [add_lit']; exact hv j v e)
  rw [hl, ← h3] at hc
  simp only [loadVar, Sem.run_bind, run_isAgg h2, aggD, run_sizeOf' h1, Result.andThen_ok, if_true, hc, Sem.run_pure]

/-- what is read in a row of cells -/
theorem loadFrom_sound (hT : TOk P T) {cs : List V} {vs : List Value} {b o off : Nat} {t : TypeId} {K : V → Prop} (hk : RepL I cs vs) (hv : ∀ j v, vs[j]? = some v → w.cell? ⟨b, o + j, none⟩ = some v)
    (h : loadFrom cs off (assoc T t) K) : ∃ v c, (loadVar t ⟨b, o + off, none⟩).run P w = .ok c w ∧ Rep I v c ∧ K v := by
  have scCase : ∀ ty : Ty, assoc T t = some ty → ty.one → (match cs[off]? with | some v => v.force K | none => False) → ∃ v c, (loadVar t ⟨b, o + off, none⟩).run P w = .ok c w ∧ Rep I v c ∧ K v := by
    intro ty ht hone h
    cases hc : cs[off]? with
    | none => rw [hc] at h; exact h.elim
    | some v =>
      rw [hc] at h
      obtain ⟨c, h1, h2⟩ := RepL.get hk hc
      exact ⟨v, c, run_loadVar_sc (hT t ty ht) hone (hv off c h1), h2, V.force_iff.1 h⟩
  unfold loadFrom at h
  split at h
  · rename_i offs z ht
    have hty := hT t _ ht
    have hlen := RepL.length hk
    split at h
    · rename_i hb
      simp only [Bool.and_eq_true] at hb
      have h0 : off = 0 := Nat.eq_of_beq_eq_true hb.1
      have hz : z.length = cs.length := Nat.eq_of_beq_eq_true hb.2
      subst h0
      exact ⟨.agg cs, .agg vs.toArray, run_loadVar_struct hty (by omega) (fun j v e => by simpa using hv j v e), by simp only [Rep]; exact ⟨vs, rfl, hk⟩, h⟩
    · obtain ⟨hle, h⟩ := chk_iff.1 h
      have hle := Nat.le_of_ble_eq_true hle
      refine ⟨_, .agg ((vs.drop off).take z.length).toArray, run_loadVar_struct hty (by simp; omega) (fun j v e => ?_), ?_, forceL_iff.1 h⟩
      · have : vs[off + j]? = some v := by
          rw [List.getElem?_take] at e
          split at e
          · rw [List.getElem?_drop] at e; exact e
          · cases e
        rw [Nat.add_assoc]; exact hv _ _ this
      · simp only [Rep]
        exact ⟨_, rfl, RepL.take _ (RepL.drop _ hk)⟩
  · rename_i ty hns ht
    exact scCase _ ht (by cases ty <;> first | trivial | exact (hns _ _ rfl).elim) h
  · exact h.elim
end
end Go.Aw
