/-
  AW, PART 8. Structs and rows that are built; rows made longer; lengths; calls; all operations.
-/
import Derived.Test.YtngbihfihdheoaaAw7
set_option linter.unusedVariables false
set_option linter.unusedSimpArgs false
namespace Go.Aw
open Go

section
variable {D : List Deferred} {P : Program} {T : List (Nat × Ty)} {C : FuncId → List V → St → (Res → St → Prop) → Prop} {I0 I : Mem} {st0 st : St} {w0 w : World} {β : Nat → Option Nat} {env : Env} {a : Act}
variable {o : Oper} {K : V → Env → St → Prop} {Q : AExit → Env → St → Prop} {next : Act → World → Prop} {Qc : Exit → Act → World → Prop}

/-- cells laid over a row, one by one -/
theorem foldl_set : ∀ (vs : List Value) (k off : Nat) (cs : Array Value), off + k + vs.length ≤ cs.size →
    ((vs.zipIdx k).foldl (fun cs (p : Value × Nat) => cs.setIfInBounds (off + p.2) p.1) cs).toList = cs.toList.take (off + k) ++ vs ++ cs.toList.drop (off + k + vs.length)
  | [], k, off, cs, h => by simp
  | v :: vs, k, off, cs, h => by
    simp only [List.length_cons] at h
    rw [List.zipIdx_cons, List.foldl_cons, foldl_set vs (k + 1) off _ (by simp; omega)]
    have hlt : off + k < cs.toList.length := by simp; omega
    simp only [Array.toList_setIfInBounds, List.length_cons]
    rw [show off + (k + 1) = off + k + 1 by omega, List.take_set, List.drop_set_of_lt (by omega)]
    rw [show off + k + 1 + vs.length = off + k + (vs.length + 1) by omega]
    rw [List.take_succ_eq_append_getElem hlt, List.set_append_right _ _ (by simp; omega)]
    have hm : min (off + k) cs.size = off + k := by omega
    simp [hm]

/-- the machine's own laying of parts -/
theorem fill_sound {offs : List (Nat × Nat)} {place : Nat → Option (Nat × Nat)} (hp : ∀ (n o s : Nat), offs[n]? = some (o, s) → place n = some (o, s)) :
    ∀ {ps : List (Nat × V)} {cps : List (Nat × Value)} {cs : List V} {vs : List Value} {K : List V → Prop}, RepL I cs vs →
      cps.map (·.1) = ps.map (·.1) → RepL I (ps.map (·.2)) (cps.map (·.2)) → (∀ p ∈ ps, p.2.known = true) → fillV offs cs ps K →
      ∃ cs' us, Instr.fill place vs.toArray cps = some us.toArray ∧ RepL I cs' us ∧ K cs' ∧ us.length = vs.length
  | [], cps, cs, vs, K, hk, h1, h2, h3, k => by
    have : cps = [] := by simpa using h1
    subst this
    exact ⟨cs, vs, rfl, hk, forceL_iff.1 k, rfl⟩
  | (i, v) :: ps, [], cs, vs, K, hk, h1, h2, h3, k => by simp at h1
  | (i, v) :: ps, (j, c) :: cps, cs, vs, K, hk, h1, h2, h3, k => by
    simp only [List.map_cons, List.cons.injEq] at h1
    obtain ⟨rfl, h1⟩ := h1
    simp only [List.map_cons, RepL] at h2
    obtain ⟨c', s, e, h4, h5⟩ := h2
    injection e with e1 e2
    subst e1; subst e2
    rw [fillV_cons] at k
    split at k
    · rename_i off size ho
      obtain ⟨g1, k⟩ := chk_iff.1 k
      obtain ⟨g2, k⟩ := chk_iff.1 k
      have g1 := Nat.eq_of_beq_eq_true g1
      have g2 := Nat.le_of_ble_eq_true g2
      have hkn := h3 (j, v) List.mem_cons_self
      have hc := rep_cells h4 hkn
      have hlc : v.cells.length = c.cells.size := by rw [RepL.length hc, Array.length_toList]
      have hlv := RepL.length hk
      have hf := foldl_set c.cells.toList 0 off vs.toArray (by simp; omega)
      have hfa : c.cells.zipIdx.foldl (fun cs (p : Value × Nat) => cs.setIfInBounds (off + p.2) p.1) vs.toArray = (vs.take off ++ c.cells.toList ++ vs.drop (off + size)).toArray := by
        apply Array.ext'
        rw [← Array.foldl_toList, Array.toList_zipIdx, hf]
        simp [← hlc, g1]
      have hR : RepL I (cs.take off ++ v.cells ++ cs.drop (off + size)) (vs.take off ++ c.cells.toList ++ vs.drop (off + size)) :=
        RepL.append (RepL.append (RepL.take _ hk) hc) (RepL.drop _ hk)
      obtain ⟨cs', us, q1, q2, q3, q4⟩ := fill_sound hp hR h1 h5 (fun p hp' => h3 p (List.mem_cons_of_mem _ hp')) k
      refine ⟨cs', us, ?_, q2, q3, ?_⟩
      · simp only [Instr.fill, hp j off size ho]
        rw [if_neg (by simp; omega), hfa]
        exact q1
      · rw [q4]; simp; omega
    · exact k.elim

theorem evParts_sound {B : Nat} (h : RelF D B I β env st a w) : ∀ {l : List (Nat × Operand)} {K : List (Nat × V) → Prop}, evParts env l K →
    ∃ ps, (l.map fun p => (p.1, a.eval p.2)).map (·.1) = ps.map (·.1) ∧ RepL I (ps.map (·.2)) ((l.map fun p => (p.1, a.eval p.2)).map (·.2)) ∧ (∀ p ∈ ps, p.2.known = true) ∧ K ps
  | [], K, k => ⟨[], rfl, by simp only [List.map_nil, RepL], fun p hp => (by cases hp), k⟩
  | (i, x) :: r, K, k => by
    rw [evParts_cons, V.force_iff] at k
    obtain ⟨hp, k⟩ := chk_iff.1 k
    obtain ⟨ps, h1, h2, h3, h4⟩ := evParts_sound h k
    refine ⟨(i, env.eval x) :: ps, by simp only [List.map_cons, h1], ?_, fun p hp' => ?_, h4⟩
    · simp only [List.map_cons, RepL]
      exact ⟨_, _, rfl, (h.eval x).rep (known_plain hp), h2⟩
    · rcases List.mem_cons.1 hp' with rfl | hp'
      · exact hp
      · exact h3 p hp'

theorem sound_build {t : TypeId} {parts : Array (Nat × Operand)} (hT : TOk P T) (hK : Takes D I0 st0 w0 β env.nxt a o.dst next K) (h : Rel D I0 st0 w0 I β env st a w) (ho : o.op = .build t parts)
    (k : match assoc T t with
    | some (.struct offs z) => evParts env parts.toList fun ps => fillV offs z ps fun cs => K (.agg cs) env st
    | _ => False) : o.wp P a w next Qc := by
  split at k
  · rename_i offs z ht
    obtain ⟨i, fields, zs, h1, h2, h3, h4, h5, h6, h7, _⟩ := hT t _ ht
    obtain ⟨ps, g1, g2, g3, k⟩ := evParts_sound h.f k
    have hm : (fields.mapM fun f => do pure (f.offset, ← sizeOf f.type) : Sem (Array (Nat × Nat))).run P w = .ok offs.toArray w := by
      have key : ∀ (fs : List Field) (os : List (Nat × Nat)), fs.length = os.length → (∀ (n o s : Nat), os[n]? = some (o, s) → ∃ (f : Field) (j : TypeInfo), fs[n]? = some f ∧ f.offset = o ∧ P.info? f.type = some j ∧ j.size = s) →
          (fs.mapM fun f => do pure (f.offset, ← sizeOf f.type) : Sem (List (Nat × Nat))).run P w = .ok os w := by
        intro fs
        induction fs with
        | nil => intro os hl _; cases os with
          | nil => rfl
          | cons x y => simp at hl
        | cons f fs ih =>
          intro os hl hq
          cases os with
          | nil => simp at hl
          | cons p os =>
            obtain ⟨po, psz⟩ := p
            obtain ⟨f', j, q1, q2, q3, q4⟩ := hq 0 po psz (by simp)
            simp at q1
            subst q1
            have := ih os (by simpa using hl) (fun n o s e => hq (n + 1) o s (by simpa using e))
            simp only [List.mapM_cons, Sem.run_bind, run_sizeOf' q3, Result.andThen_ok, Sem.run_pure, this, q2, q4]
      have := key fields.toList offs (by rw [Array.length_toList]; exact h6) (fun n o s e => by
        obtain ⟨f, j, q1, q2⟩ := h7 n o s e
        exact ⟨f, j, by simpa using q1, q2⟩)
      rw [Array.mapM_eq_mapM_toList, Sem.run_map, this]
      rfl
    obtain ⟨cs', us, q1, q2, q3, q4⟩ := fill_sound (place := fun n => offs.toArray[n]?) (fun n o s e => by simpa using e) (RepL.mono (Mem.empty_le I) _ _ h5) g1 g2 g3 k
    refine op_value hK (c := .agg us.toArray) (w' := w) (v := .agg cs') ?_ h (RepT.of (by simp only [Rep]; exact ⟨us, rfl, q2⟩)) q3
    have hpl : (parts.map fun (i, x) => (i, a.eval x)).toList = parts.toList.map fun p => (p.1, a.eval p.2) := by simp
    simp only [execOp, ho, Instr.build, Sem.run_bind, run_zeroValue' h1 h4, Value.cells, Result.andThen_ok, run_underlying' h2, hm, hpl, q1, Sem.run_pure]
  · exact k.elim

/-- rows of a slice, as they lie -/
theorem repE_cells {sz : Nat} : ∀ {l : List (List V)} {b o : Nat}, RelS I st w → RepE I sz b o l → ∃ vs, RepR I sz l vs ∧ ∀ j v, vs[j]? = some v → w.cell? ⟨b, o + j, none⟩ = some v
  | [], b, o, hs, k => ⟨[], by simp only [RepR], fun j v e => by simp at e⟩
  | u :: r, b, o, hs, k => by
    simp only [RepE] at k
    obtain ⟨⟨h0, h1⟩, k2⟩ := k
    obtain ⟨us, h2, h3⟩ := repC_cells hs h1
    obtain ⟨vs, h4, h5⟩ := repE_cells hs k2
    have hl : us.length = sz := by rw [← RepL.length h2, h0]
    refine ⟨us ++ vs, by simp only [RepR]; exact ⟨us, vs, rfl, h0, h2, h4⟩, fun j v e => ?_⟩
    rcases Nat.lt_or_ge j us.length with h | h
    · rw [List.getElem?_append_left h] at e; exact h3 j v e
    · rw [List.getElem?_append_right h] at e
      have := h5 _ v e
      rw [show o + sz + (j - us.length) = o + j by omega] at this
      exact this
theorem RepR.append {sz : Nat} : ∀ {l r : List (List V)} {vs us : List Value}, RepR I sz l vs → RepR I sz r us → RepR I sz (l ++ r) (vs ++ us)
  | [], r, vs, us, k, h => by simp only [RepR] at k; subst k; simpa using h
  | v :: l, r, vs, us, k, h => by
    simp only [RepR] at k
    obtain ⟨u1, s, e, k1, k2, k3⟩ := k
    subst e
    simp only [List.cons_append, RepR]
    exact ⟨u1, s ++ us, by simp, k1, k2, RepR.append k3 h⟩
theorem RepR.wk {sz : Nat} : ∀ {l : List (List V)} {vs : List Value}, RepR I sz l vs → RepR I sz (l.map (·.map V.wk0)) vs
  | [], vs, k => by simpa only [List.map_nil, RepR] using k
  | v :: l, vs, k => by
    simp only [RepR] at k
    obtain ⟨u1, s, e, k1, k2, k3⟩ := k
    simp only [List.map_cons, RepR]
    exact ⟨u1, s, e, by simpa using k1, RepL.map (fun _ _ => Rep.wk0) k2, RepR.wk k3⟩
theorem RepR.sc {sz : Nat} : ∀ {l : List (List V)} {vs : List Value}, RepR I sz l vs → (l.all fun v => v.all V.sc) = true → ∀ c ∈ vs, c.oneCell' = true
  | [], vs, k, h, c, hc => by simp only [RepR] at k; subst k; cases hc
  | v :: l, vs, k, h, c, hc => by
    simp only [RepR] at k
    obtain ⟨u1, s, e, k1, k2, k3⟩ := k
    subst e
    simp only [List.all_cons, Bool.and_eq_true] at h
    rcases List.mem_append.1 hc with hc | hc
    · exact sc_all k2 h.1 c hc
    · exact RepR.sc k3 h.2 c hc
theorem RepR.mono {J : Mem} {sz : Nat} (h : I.le J) : ∀ {l : List (List V)} {vs : List Value}, RepR I sz l vs → RepR J sz l vs
  | [], vs, k => by simpa only [RepR] using k
  | v :: l, vs, k => by
    simp only [RepR] at k ⊢
    obtain ⟨u1, s, e, k1, k2, k3⟩ := k
    exact ⟨u1, s, e, k1, RepL.mono h _ _ k2, RepR.mono h k3⟩
theorem repR_of {sz : Nat} : ∀ {vs : List V} {cs : List Value}, RepL I vs cs → (vs.all fun v => v.known && Nat.beq v.cells.length sz) = true →
    RepR I sz (vs.map fun v => v.cells.map V.wk0) (cs.flatMap fun c => c.cells.toList) ∧ ∀ c ∈ cs, c.cells.size = sz
  | [], cs, k, h => by simp only [RepL] at k; subst k; exact ⟨by simp only [List.map_nil, List.flatMap_nil, RepR], fun c hc => by cases hc⟩
  | v :: r, cs, k, h => by
    simp only [RepL] at k
    obtain ⟨c, s, e, k1, k2⟩ := k
    subst e
    simp only [List.all_cons, Bool.and_eq_true] at h
    obtain ⟨⟨h1, h2⟩, h3⟩ := h
    have h2 := Nat.eq_of_beq_eq_true h2
    obtain ⟨g1, g2⟩ := repR_of k2 h3
    have hc := rep_cells k1 h1
    refine ⟨?_, fun c' hc' => ?_⟩
    · simp only [List.map_cons, List.flatMap_cons, RepR]
      exact ⟨_, _, rfl, by simpa using h2, RepL.map (fun _ _ => Rep.wk0) hc, g1⟩
    · rcases List.mem_cons.1 hc' with rfl | hc'
      · rw [← h2, RepL.length hc, Array.length_toList]
      · exact g2 c' hc'

/-- elements laid one behind the other -/
theorem fill_seq {size : Nat} : ∀ (cps : List (Nat × Value)) (n : Nat) (pre rest : List Value), pre.length = n * size → rest.length = cps.length * size →
    (∀ j p, cps[j]? = some p → p.1 = n + j) → (∀ p ∈ cps, p.2.cells.size = size) →
    Instr.fill (fun i => some (i * size, size)) (pre ++ rest).toArray cps = some (pre ++ cps.flatMap fun p => p.2.cells.toList).toArray
  | [], n, pre, rest, h1, h2, h3, h4 => by
    have : rest = [] := List.eq_nil_of_length_eq_zero (by simpa using h2)
    subst this
    simp [Instr.fill]
  | (i, c) :: cps, n, pre, rest, h1, h2, h3, h4 => by
    have hi : i = n := by simpa using h3 0 (i, c) (by simp)
    subst hi
    have hc : c.cells.size = size := h4 (i, c) List.mem_cons_self
    have hr : rest.length = cps.length * size + size := by rw [h2, List.length_cons, Nat.add_mul]; omega
    have hf := foldl_set c.cells.toList 0 (i * size) (pre ++ rest).toArray (by simp; omega)
    have hfa : c.cells.zipIdx.foldl (fun cs (p : Value × Nat) => cs.setIfInBounds (i * size + p.2) p.1) (pre ++ rest).toArray = ((pre ++ c.cells.toList) ++ rest.drop size).toArray := by
      apply Array.ext'
      rw [← Array.foldl_toList, Array.toList_zipIdx, hf]
      simp only [Nat.add_zero, Array.length_toList, hc, ← h1]
      rw [List.take_left]
      simp [List.append_assoc, List.drop_append]
    have hlt : ¬ ((pre ++ rest).toArray.size < i * size + c.cells.size) := by simp; omega
    simp only [Instr.fill, hc, ne_eq, not_true_eq_false, decide_false, Bool.false_or, gt_iff_lt, decide_eq_true_eq]
    rw [hc] at hlt
    rw [if_neg hlt, hfa, fill_seq cps (i + 1) (pre ++ c.cells.toList) (rest.drop size) (by simp [hc, Nat.add_mul]; omega) (by simp; omega)
      (fun j p e => by have := h3 (j + 1) p (by simpa using e); omega) (fun p hp => h4 p (List.mem_cons_of_mem _ hp))]
    simp

theorem seqFrom_at : ∀ {l : List (Nat × Operand)} {n : Nat}, seqFrom n l = true → ∀ (j : Nat) (p : Nat × Operand), l[j]? = some p → p.1 = n + j
  | [], n, h, j, p, e => by simp at e
  | (i, x) :: r, n, h, j, p, e => by
    simp only [seqFrom, Bool.and_eq_true] at h
    have h1 := Nat.eq_of_beq_eq_true h.1
    cases j with
    | zero => simp at e; subst e; simpa using h1
    | succ j =>
      have := seqFrom_at h.2 j p (by simpa using e)
      omega

/-- a row in new memory that is written no more -/
theorem Rel.newSlice {sz cap : Nat} {es : List (List V)} {vs rest : List Value} {ty : TypeId} (h : Rel D I0 st0 w0 I β env st a w) (hr : RepR I sz es vs) (hsz : 0 < sz) (hlim : es.length < lim)
    (hcap : vs.length + rest.length = cap * sz) (hle : es.length ≤ cap) :
    Rel D I0 st0 w0 (I.add w.heap.size 0 vs (vs.length + rest.length)) β env (st.setHw w.heap.size (es.length * sz)) a (w.alloc (.cells (vs ++ rest).toArray ty)) ∧
    Rep (I.add w.heap.size 0 vs (vs.length + rest.length)) (.slice sz es (.tok w.heap.size)) (.slice (some ⟨w.heap.size, 0, none⟩) es.length cap) := by
  have hl := RepR.length hr
  refine ⟨by rw [← hl]; exact h.newRow vs rest ty, ?_⟩
  simp only [Rep]
  refine ⟨some ⟨w.heap.size, 0, none⟩, cap, rfl, hle, hlim, hsz, ⟨rfl, ?_⟩, .inr rfl, ?_⟩
  · show (if w.heap.size = w.heap.size then some (vs.length + rest.length) else _) = _
    rw [if_pos rfl, hcap]
  · exact RepE.add es vs 0 hr (Mem.le_add (fun o _ => cell_new h.s o) (.inl (shape_new h.s))) fun j c e => Mem.add_at e
theorem Rep.own {sz : Nat} {es : List (List V)} {own own' : Own} {c : Value} (h : Rep I (.slice sz es own) c) (k : own' = .any ∨ (own' = .full ∧ ∃ ad, c = .slice ad es.length es.length)) : Rep I (.slice sz es own') c := by
  simp only [Rep] at h ⊢
  obtain ⟨ad, cap, e, h1, h2, h3, h4, h5⟩ := h
  refine ⟨ad, cap, e, h1, h2, h3, ?_, h5⟩
  rcases k with rfl | ⟨rfl, ad', e'⟩
  · trivial
  · rw [e] at e'; injection e' with _ _ e'

theorem sound_buildSlice {t : TypeId} {len : Nat} {parts : Array (Nat × Operand)} (hT : TOk P T) (hK : Takes D I0 st0 w0 β env.nxt a o.dst next K) (h : Rel D I0 st0 w0 I β env st a w) (ho : o.op = .buildSlice t len parts)
    (k : match assoc T t with
    | some (.slice _ sz _) => chk (seqFrom 0 parts.toList) (chk (Nat.beq len parts.toList.length) (chk (Nat.ble (len * sz) 16777216)
      (evs env (parts.toList.map (·.2)) fun vs => chk (vs.all fun v => v.known && Nat.beq v.cells.length sz) (forceLL (vs.map fun v => v.cells.map V.wk0) fun es => K (.slice sz es .full) env st))))
    | _ => False) : o.wp P a w next Qc := by
  split at k
  · rename_i el sz by' ht
    obtain ⟨h1, k⟩ := chk_iff.1 k
    obtain ⟨h2, k⟩ := chk_iff.1 k
    obtain ⟨h3, k⟩ := chk_iff.1 k
    obtain ⟨vs, h4, k⟩ := evs_sound h.f k
    obtain ⟨h5, k⟩ := chk_iff.1 k
    have k := forceLL_iff.1 k
    have h2 := Nat.eq_of_beq_eq_true h2
    have h3 := Nat.le_of_ble_eq_true h3
    obtain ⟨i0, j, c, g1, g2, g3, g4, g5, g6, g7, g8, g9, g10⟩ := hT t _ ht
    obtain ⟨q1, q2⟩ := repR_of h4 h5
    have hlv := RepL.length h4
    simp only [List.length_map] at hlv
    have hmul : len ≤ len * sz := Nat.le_mul_of_pos_right _ g8
    have hlen : (vs.map fun v => v.cells.map V.wk0).length = len := by simp [hlv, h2]
    have hR := RepR.length q1
    rw [hlen] at hR
    obtain ⟨r1, r2⟩ := h.newSlice (rest := []) (ty := el) (cap := len) q1 g8 (by rw [hlen]; simp only [lim]; omega) (by rw [hR, List.length_nil, Nat.add_zero]) (by rw [hlen]; exact Nat.le_refl _)
    rw [hlen] at r1 r2
    have hfr := fresh_new h.s
    have r1' := r1.stLe (st' := st) (St.le_setHw (St.le_refl st) hfr.2 _)
    refine op_value hK (c := .slice (some ⟨w.heap.size, 0, none⟩) len len) ?_ r1' (RepT.of (Rep.own r2 (.inr ⟨rfl, _, by rw [hlen]⟩))) k
    have hp : (parts.map fun (i, x) => (i, a.eval x)).toList = parts.toList.map fun p => (p.1, a.eval p.2) := by simp
    have hz : ∀ z : Array Value, ((Array.range (len * sz)).map fun x => z[x % z.size]!).toList.length = parts.toList.length * sz := fun z => by simp [h2]
    have hfill : ∀ z : Array Value, Instr.fill (fun i => some (i * sz, sz)) ((Array.range (len * sz)).map fun x => z[x % z.size]!) (parts.toList.map fun p => (p.1, a.eval p.2)) =
        some (((parts.toList.map (·.2)).map a.eval).flatMap fun c => c.cells.toList).toArray := fun z => by
      have := fill_seq (size := sz) (parts.toList.map fun p => (p.1, a.eval p.2)) 0 [] ((Array.range (len * sz)).map fun x => z[x % z.size]!).toList (by simp) (by rw [hz, List.length_map])
        (fun j p e => by
          rw [List.getElem?_map] at e
          cases hq : parts.toList[j]? with
          | none => rw [hq] at e; cases e
          | some p' =>
            rw [hq] at e
            simp only [Option.map_some, Option.some.injEq] at e
            subst e
            exact seqFrom_at h1 j p' hq)
        (fun p hp => by
          obtain ⟨p', hp1, rfl⟩ := List.mem_map.1 hp
          exact q2 _ (List.mem_map.2 ⟨p'.2, List.mem_map.2 ⟨p', hp1, rfl⟩, rfl⟩))
      simp only [List.nil_append, Array.toArray_toList] at this
      rw [this]
      congr 2
      simp [List.flatMap_map]
    have hbig : ¬ (len * sz > 2 ^ 24) := by omega
    simp only [execOp, ho, Instr.buildSlice, Sem.run_bind, run_underlying' g2, Result.andThen_ok, run_sizeOf' g5, g6, hp]
    rw [if_neg hbig]
    simp only [Sem.run_bind, Sem.run_pure, Result.andThen_ok, hfill, newRow, run_newObj, World.alloc_eq, List.append_nil]
    by_cases h0 : len * sz = 0
    · rw [if_pos h0]
      simp only [Sem.run_bind, Sem.run_pure, Result.andThen_ok, run_newObj, World.alloc_eq]
    · rw [if_neg h0]
      simp only [Sem.run_bind, Sem.run_pure, Result.andThen_ok, run_zeroValue' g5 g9, run_newObj, World.alloc_eq]
  · exact k.elim

theorem run_append_room' {t ty e : TypeId} {i : TypeInfo} (ht : P.underlying t = some (.slice e)) (hi : P.info? e = some i)
    {g sLen sCap : Nat} {cur : Array Value} {ety : TypeId} (hg : w.heap[g]? = some (.cells cur ety (0, 0)))
    {ad : Addr} {m c : Nat} {news : List Value} (hl : news.length = m * i.size) (hnews : ∀ j u, news[j]? = some u → w.cell? (ad.add j) = some u) (h1 : ∀ u ∈ news, u.oneCell' = true)
    (hroom : sLen + m ≤ sCap) (hfit : sLen * i.size + news.length ≤ cur.size) :
    (Builtin.append_ #[t, t] ty #[.slice (some ⟨g, 0, none⟩) sLen sCap, .slice (some ad) m c]).run P w =
      .ok (.slice (some ⟨g, 0, none⟩) (sLen + m) sCap) (w.setRow g (cur.toList.take (sLen * i.size) ++ news ++ cur.toList.drop (sLen * i.size + news.length)).toArray) := by
  have hf := run_firstCells_some (P := P) w i.size m ad m c news hl hnews
  have hst := run_storeCells_at P g (sLen * i.size) ety news 0 cur w hg (by simpa using hfit) h1
  simp only [Nat.add_zero] at hst
  simp [Builtin.append_, run_underlying ht, sizeOf, typeInfo, hi, Builtin.lenOf, hroom, hf, add_lit', hst]
theorem run_append_none' {t ty e : TypeId} {i : TypeInfo} (ht : P.underlying t = some (.slice e)) (hi : P.info? e = some i) {ad ad' : Option Addr} {n cap c : Nat} (h : n ≤ cap) :
    (Builtin.append_ #[t, t] ty #[.slice ad n cap, .slice ad' 0 c]).run P w = .ok (.slice ad n cap) w := by
  have hf : ∀ size : Nat, (Builtin.firstCells size 0 (.slice ad' 0 c)).run P w = .ok #[] w := by
    intro size
    cases ad' <;> simp [Builtin.firstCells, loadCells, loadCellsFrom]
  cases ad <;> simp [Builtin.append_, run_underlying ht, sizeOf, typeInfo, hi, Builtin.lenOf, h, hf, storeCells]

theorem sound_append {t u : TypeId} {x y : Operand} {ty : TypeId} (hT : TOk P T) (hK : Takes D I0 st0 w0 β env.nxt a o.dst next K) (h : Rel D I0 st0 w0 I β env st a w)
    (hr : ∀ (c : Value) (w' : World), (Builtin.append_ #[t, u] ty #[a.eval x, a.eval y]).run P w = .ok c w' → (execOp a.eval o).run P w = .ok (.value c) w')
    (k : match assoc T t, assoc T u, env.evalT T t x, env.evalT T u y with
        | some (.slice _ sz bytes), some (.slice _ _ _), .slice sz' es own, .slice sz'' new _ =>
          chk (Nat.beq t u && (Nat.beq sz sz' && Nat.beq sz sz'')) (appendTo sz bytes es own new st fun v st' => K v env st')
        | _, _, _, _ => False) : o.wp P a w next Qc := by
  have hx := h.f.evalT hT t x
  have hy := h.f.evalT hT u y
  split at k
  · rename_i el sz by' _ _ _ sz' es own sz'' new own' ht hu hex hey
    rw [hex] at hx
    rw [hey] at hy
    obtain ⟨h1, k1⟩ := chk_iff.1 k
    clear k
    simp only [Bool.and_eq_true] at h1
    obtain ⟨e1, e2, e3⟩ := h1
    have e1 := Nat.eq_of_beq_eq_true e1
    have e2 := Nat.eq_of_beq_eq_true e2
    have e3 := Nat.eq_of_beq_eq_true e3
    subst e1; subst e2; subst e3
    obtain ⟨hb, hlim, k2⟩ := k1
    obtain ⟨hsc, k3⟩ := chk_iff.1 k2
    clear k2
    obtain ⟨i0, j, c, g1, g2, g3, g4, g5, g6, g7, g8, g9, g10⟩ := hT t _ ht
    subst g6
    subst g7
    obtain ⟨ax, cap, x1, x2, x3, x4, x5, x6⟩ := rep_slice hx
    obtain ⟨ay, cap', y1, y2, y3, y4, y5, y6⟩ := rep_slice hy
    cases hnew : new with
    | nil =>
      subst hnew
      have hrun := hr _ _ (by rw [x1, y1]; exact run_append_none' g2 g5 x2)
      cases own with
      | any => exact k3.elim
      | full => exact op_value hK hrun h (RepT.of (by have : Rep I (.slice j.size es .full) (a.eval x) := hx; rw [x1] at this; exact this)) (k3.1 rfl)
      | tok b =>
        obtain ⟨hh, k3⟩ := k3
        have k4 := k3 b (.inl rfl)
        simp only [List.map_nil, List.append_nil, List.length_nil, Nat.add_zero] at k4
        have hle : ((st.dropHw b).setHw b (es.length * j.size)).le st := by
          refine ⟨fun _ _ e => e, fun z n e => ?_⟩
          simp only [St.setHw, St.dropHw] at e
          split at e
          · rename_i hz; subst hz; rw [hh]; exact e
          · exact e
        exact op_value hK hrun (h.stLe hle) (RepT.of (by have : Rep I (.slice j.size es (.tok b)) (a.eval x) := hx; rw [x1] at this; exact this)) k4
    | cons n0 nr =>
      have hpos : 0 < new.length := by rw [hnew]; simp
      have hne : new ≠ [] := by rw [hnew]; simp
      cases ay with
      | none => simp only at y6; omega
      | some ay =>
        obtain ⟨by1, oy, spy⟩ := ay
        simp only at y6
        obtain ⟨y0, y6⟩ := y6
        obtain rfl : spy = none := y0.resolve_left (by omega)
        obtain ⟨news, n1, n2⟩ := repE_cells h.s y6
        have n2' : ∀ jj v, news[jj]? = some v → w.cell? ((⟨by1, oy, none⟩ : Addr).add jj) = some v := fun jj v e => by rw [add_lit']; exact n2 jj v e
        have nl := RepR.length n1
        have nsc := RepR.sc n1 hsc
        have h63 : ((es.length + new.length : Nat) : Int) ≤ 9223372036854775807 := by simp only [lim] at hlim; omega
        -- a new row
        have grow : ∀ (olds : List Value) (oldCap : Nat) (kk : V → St → Prop),
            RepR I j.size es olds → oldCap < es.length + new.length →
            (Builtin.append_ #[t, t] ty #[a.eval x, a.eval y]).run P w = .ok (.slice (some ⟨w.heap.size, 0, none⟩) (es.length + new.length) (grownCap w (es.length + new.length) oldCap el))
              (w.drew.alloc (.cells (olds.toArray ++ news.toArray ++ Builtin.zeroCells c.cells (grownCap w (es.length + new.length) oldCap el - (es.length + new.length))) el)) →
            ∀ st', st'.le (st.setHw w.heap.size ((es.length + new.length) * j.size)) → K (.slice j.size (es ++ new.map (·.map V.wk0)) (.tok w.heap.size)) env st' → o.wp P a w next Qc := by
          intro olds oldCap kk ho hlt hrun st' hle hk
          have hge := grownCap_ge w (es.length + new.length) oldCap el
          have hall : RepR I j.size (es ++ new.map (·.map V.wk0)) (olds ++ news) := ho.append n1.wk
          have hlen : (es ++ new.map (·.map V.wk0)).length = es.length + new.length := by simp
          have hlo := RepR.length ho
          have hz : ∀ q : Nat, (Builtin.zeroCells c.cells q).toList.length = q * j.size := fun q => by rw [Array.length_toList, size_zeroCells, g10]
          obtain ⟨r1, r2⟩ := (h.grew (Grew.drew w)).newSlice (rest := (Builtin.zeroCells c.cells (grownCap w (es.length + new.length) oldCap el - (es.length + new.length))).toList) (ty := el)
            (cap := grownCap w (es.length + new.length) oldCap el) hall x4 (by rw [hlen]; exact hlim)
            (by rw [List.length_append, hlo, nl, hz, ← Nat.add_mul, ← Nat.add_mul]; congr 1; omega) (by rw [hlen]; exact hge)
          rw [hlen] at r1 r2
          refine op_value (β' := β) hK (hr _ _ hrun) ?_ (RepT.of r2) hk
          refine Rel.stLe ?_ hle
          have : (olds ++ news ++ (Builtin.zeroCells c.cells (grownCap w (es.length + new.length) oldCap el - (es.length + new.length))).toList).toArray =
              olds.toArray ++ news.toArray ++ Builtin.zeroCells c.cells (grownCap w (es.length + new.length) oldCap el - (es.length + new.length)) := by
            apply Array.ext'; simp
          rw [this] at r1
          exact r1
        have old : ∃ olds, RepR I j.size es olds ∧ (cap < es.length + new.length → (Builtin.append_ #[t, t] ty #[a.eval x, a.eval y]).run P w = .ok (.slice (some ⟨w.heap.size, 0, none⟩) (es.length + new.length) (grownCap w (es.length + new.length) cap el))
              (w.drew.alloc (.cells (olds.toArray ++ news.toArray ++ Builtin.zeroCells c.cells (grownCap w (es.length + new.length) cap el - (es.length + new.length))) el))) := by
          cases ax with
          | none =>
            simp only at x6
            subst x6
            have : es = [] := List.eq_nil_of_length_eq_zero (by omega)
            subst this
            refine ⟨[], by simp only [RepR], fun hlt => ?_⟩
            have := run_append_nil (P := P) w t ty el j c g2 g5 g9 ⟨by1, oy, none⟩ new.length cap' news nl n2' hpos (by simpa using h63) (by simp only [List.length_nil, Nat.zero_add] at hb; omega)
            rw [x1, y1]
            simp only [List.length_nil, Nat.zero_add] at this ⊢
            rw [this]
            simp
          | some ax =>
            obtain ⟨bx, ox, spx⟩ := ax
            simp only at x6
            obtain ⟨x0, x6⟩ := x6
            obtain ⟨olds, o1, o2⟩ := repE_cells h.s x6
            refine ⟨olds, o1, fun hlt => ?_⟩
            rw [x1, y1]
            exact run_append_grow (P := P) w t ty el j c g2 g5 g9 ⟨bx, ox, spx⟩ es.length cap olds (RepR.length o1) (fun jj v e => by
              rcases x0 with x0 | x0
              · have h0 : es.length = 0 := by omega
                have := RepR.length o1
                rw [h0, Nat.zero_mul] at this
                rw [List.eq_nil_of_length_eq_zero this] at e
                cases e
              · have x0 : spx = none := x0
                subst x0
                rw [add_lit']; exact o2 jj v e) ⟨by1, oy, none⟩ new.length cap' news nl n2' hlt h63
              (growslice_fits hlt (by omega))
        obtain ⟨olds, o1, o2⟩ := old
        have hfr := fresh_new h.s
        cases own with
        | any => exact k3.elim
        | full =>
          have hc : cap = es.length := x5
          exact grow olds cap (fun _ _ => True) o1 (by omega) (o2 (by omega)) _ (St.le_refl _) (k3.2 hne _ hfr)
        | tok b =>
          obtain ⟨hh, k3⟩ := k3
          obtain ⟨t1, t2⟩ := x5
          subst t1
          rcases Nat.lt_or_ge cap (es.length + new.length) with hlt | hroom
          · refine grow olds cap (fun _ _ => True) o1 hlt (o2 hlt) _ ?_ (k3 w.heap.size (.inr hfr))
            refine ⟨fun _ _ e => e, fun z n e => ?_⟩
            simp only [St.setHw, St.dropHw] at e ⊢
            split at e
            · rename_i hz; rw [if_pos hz]; exact e
            · rename_i hz
              rw [if_neg hz]
              split at e
              · cases e
              · exact e
          · obtain ⟨cur, ety, c1, c2⟩ := h.s.shape b _ t2
            have hmul : (es.length + new.length) * j.size ≤ cap * j.size := Nat.mul_le_mul_right _ hroom
            rw [Nat.add_mul] at hmul
            have hfit : es.length * j.size + news.length ≤ cur.size := by rw [nl, c2]; exact hmul
            have hrun := run_append_room' (P := P) (ty := ty) (c := cap') g2 g5 c1 nl n2' nsc hroom hfit
            have hcur : cur = cur.toList.toArray := by simp
            have r1 := h.appendIn (b := b) (n := es.length * j.size) (m := cap * j.size) (cur := cur.toList) (ty := ety) hh (by rw [← hcur]; exact c1) t2 news (by rw [Array.length_toList]; exact hfit)
            have hadd : es.length * j.size + news.length = (es.length + new.length) * j.size := by rw [nl, Nat.add_mul]
            rw [hadd] at r1
            have hf := (h.s.hw b _ hh).2
            have hl : I.le (I.add b (es.length * j.size) news (cap * j.size)) := Mem.le_add hf (.inr t2)
            refine op_value hK (hr _ _ (by rw [x1, y1]; exact hrun)) (by rw [hadd]; exact r1) (RepT.of ?_) (k3 b (.inl rfl))
            simp only at x6
            simp only [Rep]
            refine ⟨some ⟨b, 0, none⟩, cap, by simp, by simp; exact hroom, by simp; exact hlim, x4, ⟨rfl, hl.2 _ _ t2⟩, .inr rfl, ?_⟩
            refine RepE.append (RepE.mono hl _ _ _ _ x6.2) ?_
            refine RepE.add _ news _ n1.wk hl fun jj v e => ?_
            rw [Nat.zero_add]
            exact Mem.add_at e
  · exact k.elim
end
end Go.Aw
