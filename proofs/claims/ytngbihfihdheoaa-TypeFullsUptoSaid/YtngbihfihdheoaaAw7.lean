/-
  AW, PART 7. Structs and rows that are built; places in rows; rows made longer; calls.
-/
import Derived.Test.YtngbihfihdheoaaAw6
set_option linter.unusedVariables false
set_option linter.unusedSimpArgs false
namespace Go.Aw
open Go

section
variable {D : List Deferred} {P : Program} {T : List (Nat × Ty)} {C : FuncId → List V → St → (Res → St → Prop) → Prop} {I0 I : Mem} {st0 st : St} {w0 w : World} {β : Nat → Option Nat} {env : Env} {a : Act}
variable {o : Oper} {K : V → Env → St → Prop} {Q : AExit → Env → St → Prop} {next : Act → World → Prop} {Qc : Exit → Act → World → Prop}

theorem sound_unOp {op : UnOp} {t : TypeId} {x : Operand} (hK : Takes D I0 st0 w0 β env.nxt a o.dst next K) (h : Rel D I0 st0 w0 I β env st a w)
    (k : match op, env.eval x with
    | .not, .bool b => lit b (K (.bool false) env st) (K (.bool true) env st)
    | .neg, .int k n => ∃ r, r = k.wrap (0 - n) ∧ K (.int k r) env st
    | _, _ => False) (ho : o.op = .unOp op t x) : o.wp P a w next Qc := by
  have hx := h.f.eval x
  split at k
  · rename_i b he
    rw [he] at hx
    have hx := rep_bool hx
    refine op_value hK (c := .bool (!b)) (w' := w) (v := .bool (!b)) (by simp only [execOp, ho, hx]; rfl) h (RepT.of (by simp only [Rep])) ?_
    cases b <;> exact k
  · rename_i kd n he
    rw [he] at hx
    have hx := rep_int hx
    obtain ⟨r, rfl, k⟩ := k
    exact op_value hK (c := .int kd (kd.wrap (0 - n))) (w' := w) (by simp only [execOp, ho, hx]; rfl) h (RepT.of (by simp only [Rep])) k
  · exact k.elim

theorem sound_makeFunc {f : FuncId} {first cap : Array Operand} (hK : Takes D I0 st0 w0 β env.nxt a o.dst next K) (h : Rel D I0 st0 w0 I β env st a w) (ho : o.op = .makeFunc (.func f) first cap)
    (k : evs env first.toList fun x => evs env cap.toList fun c => K (.func f x c) env st) : o.wp P a w next Qc := by
  obtain ⟨v1, h1, k⟩ := evs_sound h.f k
  obtain ⟨v2, h2, k⟩ := evs_sound h.f k
  refine op_value hK (c := .func (.func f) (first.map a.eval) (cap.map a.eval)) (w' := w) (by simp only [execOp, ho]; rfl) h (RepT.of ?_) k
  simp only [Rep]
  exact ⟨first.toList.map a.eval, cap.toList.map a.eval, by congr 1 <;> (apply Array.ext'; simp), h1, h2⟩

theorem sound_extract {x : Operand} {i : Nat} (hK : Takes D I0 st0 w0 β env.nxt a o.dst next K) (h : Rel D I0 st0 w0 I β env st a w) (ho : o.op = .extract x i)
    (k : match env.eval x with
    | .tup vs => match vs[i]? with | some v => v.force fun v => K v env st | none => False
    | _ => False) : o.wp P a w next Qc := by
  have hx := h.f.eval x
  split at k
  · rename_i vs he
    rw [he] at hx
    have hx' : Rep I (.tup vs) (a.eval x) := hx
    simp only [Rep] at hx'
    obtain ⟨cs, e, hl⟩ := hx'
    split at k
    · rename_i v hv
      obtain ⟨c, h1, h2⟩ := RepL.get hl hv
      refine op_value hK (c := c) (w' := w) ?_ h (RepT.of h2) (V.force_iff.1 k)
      simp only [execOp, ho, e, Instr.extract]
      have : cs.toArray[i]? = some c := by simpa using h1
      rw [this]; rfl
    · exact k.elim
  · exact k.elim

theorem sound_indexAddr {t : TypeId} {x i : Operand} (hT : TOk P T) (hK : Takes D I0 st0 w0 β env.nxt a o.dst next K) (h : Rel D I0 st0 w0 I β env st a w) (ho : o.op = .indexAddr t x i)
    (k : match assoc T t, env.eval x, env.eval i with
    | some (.slice _ sz' _), .slice sz es _, .int _ n => chk (Nat.beq sz' sz) (0 ≤ n ∧ ∃ e, es[n.toNat]? = some e ∧ K (.eptr e 0) env st)
    | _, _, _ => False) : o.wp P a w next Qc := by
  have hx := h.f.eval x
  have hi := h.f.eval i
  split at k
  · rename_i el sz' by' sz es own kd n ht hex hei
    rw [hex] at hx
    rw [hei] at hi
    have hi := rep_int hi
    obtain ⟨hsz, h0, e, he, k1⟩ := chk_iff.1 k
    clear k
    have hsz := Nat.eq_of_beq_eq_true hsz
    subst hsz
    obtain ⟨ad, cap, e1, e2, e3, e4, e5, e6⟩ := rep_slice hx
    obtain ⟨i0, j, c, h1, h2, h3, h4, h5, h6, h7, h8, _⟩ := hT t _ ht
    have hlt : n.toNat < es.length := by
      rcases Nat.lt_or_ge n.toNat es.length with h | h
      · exact h
      · rw [List.getElem?_eq_none h] at he; cases he
    cases ad with
    | none => simp only at e6; omega
    | some ad =>
      obtain ⟨b, off, spot⟩ := ad
      simp only at e6
      obtain ⟨e0, e6⟩ := e6
      obtain rfl : spot = none := e0.resolve_left (by omega)
      obtain ⟨g1, g2⟩ := RepE.get e6 he
      refine op_value hK (c := .pointer (some ⟨b, off + n.toNat * sz', none⟩)) (w' := w) (v := .eptr e 0) ?_ h (RepT.of (by simp only [Rep]; exact ⟨b, _, rfl, g2⟩)) k1
      have hcond : (0 ≤ n ∧ n < (es.length : Int)) := ⟨h0, by omega⟩
      simp only [execOp, ho, Instr.indexAt, hi, e1, asIntOf, Sem.run_bind, Sem.run_pure, Result.andThen_ok, run_underlying' h2]
      rw [if_pos hcond]
      simp only [Sem.run_bind, run_sizeOf' h5, h6, Result.andThen_ok, Sem.run_pure, add_lit']
  · exact k.elim

theorem sound_index {t : TypeId} {x i : Operand} (hT : TOk P T) (hK : Takes D I0 st0 w0 β env.nxt a o.dst next K) (h : Rel D I0 st0 w0 I β env st a w) (ho : o.op = .index t x i)
    (k : match assoc T t, env.eval x, env.eval i with
    | some (.sc (.str _)), .str s, .int _ n => 0 ≤ n ∧ ∃ e, s[n.toNat]? = some e ∧ K (.int .u8 e.toNat) env st
    | _, _, _ => False) : o.wp P a w next Qc := by
  have hx := h.f.eval x
  have hi := h.f.eval i
  split at k
  · rename_i z s kd n ht hex hei
    rw [hex] at hx
    rw [hei] at hi
    have hi := rep_int hi
    obtain ⟨hx, hlen⟩ := rep_str hx
    obtain ⟨h0, e, he, k⟩ := k
    obtain ⟨i0, d, c, h1, h2, h3, h4, h5, h6, h7, h8, h9, h10⟩ := hT t _ ht
    simp only at h10
    subst h10
    refine op_value hK (c := .int .u8 e.toNat) (w' := w) (v := .int .u8 e.toNat) ?_ h (RepT.of (by simp only [Rep])) k
    have hg : (⟨s.toArray⟩ : ByteArray)[n.toNat]? = some e := by
      have hlt : n.toNat < s.length := by
        rcases Nat.lt_or_ge n.toNat s.length with h | h
        · exact h
        · rw [List.getElem?_eq_none h] at he; cases he
      rw [getElem?_pos (⟨s.toArray⟩ : ByteArray) n.toNat (by show n.toNat < s.toArray.size; simpa using hlt)]
      show some (s.toArray[n.toNat]) = some e
      rw [List.getElem?_eq_getElem hlt] at he
      simpa using he
    simp only [execOp, ho, Instr.index, hi, hx, asIntOf, Sem.run_bind, Sem.run_pure, Result.andThen_ok, run_underlying' h2]
    rw [if_pos h0, hg]
    rfl
  · exact k.elim


theorem run_bound {n : Int} {y : Nat} {kd : IntKind} {code : BoundsCode} (h : 0 ≤ n ∧ n ≤ (y : Int)) : (Instr.sliceBound (.int kd n) y code).run P w = .ok n.toNat w := by
  simp only [Instr.sliceBound, asIntOf, Sem.run_bind, Sem.run_pure, Result.andThen_ok]
  rw [if_pos h]; rfl

/-- the two bounds of a slice expression -/
theorem bounds_ok {len cap : Nat} {lo hi : Option Operand} {kl kh : IntKind} {l h : Int} (hF : Rel D I0 st0 w0 I β env st a w) (isS : Bool)
    (hl : (lo.map env.eval).getD (.int .i64 0) = .int kl l) (hh : (hi.map env.eval).getD (.int .i64 len) = .int kh h)
    (h0 : 0 ≤ l) (h1 : l ≤ h) (h2 : h ≤ (len : Int)) (h3 : len ≤ cap) :
    (Instr.sliceBounds isS len cap (lo.map a.eval) (hi.map a.eval) none).run P w = .ok (l.toNat, h.toNat, cap) w := by
  have hhi : ∀ x, hi = some x → a.eval x = .int kh h := fun x e => by
    subst e
    simp only [Option.map_some, Option.getD_some] at hh
    have := hF.f.eval x
    rw [hh] at this
    exact rep_int this
  have hlo : ∀ x, lo = some x → a.eval x = .int kl l := fun x e => by
    subst e
    simp only [Option.map_some, Option.getD_some] at hl
    have := hF.f.eval x
    rw [hl] at this
    exact rep_int this
  have b1 : ∀ code : BoundsCode, (Instr.sliceBound (.int kh h) cap code).run P w = .ok h.toNat w := fun code => run_bound ⟨by omega, by omega⟩
  have b2 : ∀ code : BoundsCode, (Instr.sliceBound (.int kl l) h.toNat code).run P w = .ok l.toNat w := fun code => run_bound ⟨by omega, by omega⟩
  cases hi with
  | none =>
    simp only [Option.map_none, Option.getD_none, V.int.injEq] at hh
    obtain ⟨_, rfl⟩ := hh
    simp only [Int.toNat_natCast] at b2 ⊢
    cases lo with
    | none =>
      simp only [Option.map_none, Option.getD_none, V.int.injEq] at hl
      obtain ⟨_, rfl⟩ := hl
      simp [Instr.sliceBounds]
    | some x =>
      simp only [Instr.sliceBounds, Option.map_some, Option.map_none, hlo x rfl, Sem.run_bind, Sem.run_pure, Result.andThen_ok, b2]
  | some y =>
    cases lo with
    | none =>
      simp only [Option.map_none, Option.getD_none, V.int.injEq] at hl
      obtain ⟨_, rfl⟩ := hl
      simp only [Instr.sliceBounds, Option.map_some, Option.map_none, hhi y rfl, Sem.run_bind, Sem.run_pure, Result.andThen_ok, b1]
      rfl
    | some x =>
      simp only [Instr.sliceBounds, Option.map_some, hhi y rfl, hlo x rfl, Sem.run_bind, Sem.run_pure, Result.andThen_ok, b1, b2]

theorem sound_slice {t : TypeId} {x : Operand} {lo hi : Option Operand} (hT : TOk P T) (hK : Takes D I0 st0 w0 β env.nxt a o.dst next K) (h : Rel D I0 st0 w0 I β env st a w) (ho : o.op = .slice t x lo hi none)
    (k : match assoc T t, env.eval x with
    | some (.slice _ sz' _), .slice sz es _ =>
      match (lo.map env.eval).getD (.int .i64 0), (hi.map env.eval).getD (.int .i64 es.length) with
      | .int _ l, .int _ h => chk (Nat.beq sz' sz) ((0 ≤ l ∧ l ≤ h ∧ h ≤ es.length) ∧ ∀ es', es' = (es.take h.toNat).drop l.toNat → K (.slice sz es' .any) env st)
      | _, _ => False
    | some (.sc (.str _)), .str s =>
      match (lo.map env.eval).getD (.int .i64 0), (hi.map env.eval).getD (.int .i64 s.length) with
      | .int _ l, .int _ h => (0 ≤ l ∧ l ≤ h ∧ h ≤ s.length) ∧ ∀ s', s' = (s.take h.toNat).drop l.toNat → K (.str s') env st
      | _, _ => False
    | _, _ => False) : o.wp P a w next Qc := by
  have hx := h.f.eval x
  split at k
  · rename_i el sz' by' sz es own ht hex
    rw [hex] at hx
    split at k
    · rename_i kl l kh hh hel heh
      obtain ⟨hsz, ⟨h0, h1, h2⟩, k1⟩ := chk_iff.1 k
      clear k
      have k1 := k1 _ rfl
      have hsz := Nat.eq_of_beq_eq_true hsz
      subst hsz
      obtain ⟨ad, cap, e1, e2, e3, e4, e5, e6⟩ := rep_slice hx
      obtain ⟨i0, j, c, g1, g2, g3, g4, g5, g6, g7, g8, _⟩ := hT t _ ht
      have hb := bounds_ok (P := P) (cap := cap) h true hel heh h0 h1 h2 e2
      have hlen : ((es.take hh.toNat).drop l.toNat).length = hh.toNat - l.toNat := by simp; omega
      refine op_value hK (c := .slice (if cap = l.toNat then ad else ad.map (·.add (l.toNat * sz'))) (hh.toNat - l.toNat) (cap - l.toNat)) (w' := w) ?_ h (RepT.of ?_) k1
      · have hu : (underlying t).run P w = .ok (.slice el) w := run_underlying' g2
        simp only [execOp, ho, Instr.sliceAt, Option.map_none, Sem.run_bind, hu, Result.andThen_ok, Instr.slice, e1, hb, run_sizeOf' g5, g6, Sem.run_pure]
      · simp only [Rep]
        refine ⟨_, cap - l.toNat, by rw [hlen], by rw [hlen]; omega, by rw [hlen]; omega, e4, trivial, ?_⟩
        cases ad with
        | none => simp only at e6; subst e6; simp
        | some ad =>
          simp only at e6
          obtain ⟨s1, s2⟩ := e6
          split
          · rename_i hc
            split at hc
            · cases hc
            · cases hc
          · rename_i ad' hc
            split at hc
            · rename_i hcap
              injection hc with hc
              subst hc
              refine ⟨.inl (by omega), ?_⟩
              have : (es.take hh.toNat).drop l.toNat = [] := List.eq_nil_of_length_eq_zero (by rw [hlen]; omega)
              rw [this]; simp only [RepE]
            · simp only [Option.map_some, Option.some.injEq] at hc
              subst hc
              rename_i hne
              obtain ⟨b, off, spot⟩ := ad
              obtain rfl : spot = none := s1.resolve_left (by omega)
              rw [add_lit']
              exact ⟨.inr rfl, RepE.drop _ (RepE.take _ s2)⟩
    · exact k.elim
  · rename_i z s ht hex
    rw [hex] at hx
    obtain ⟨hx, hlim⟩ := rep_str hx
    split at k
    · rename_i kl l kh hh hel heh
      obtain ⟨⟨h0, h1, h2⟩, k⟩ := k
      have k := k _ rfl
      obtain ⟨i0, d, c, g1, g2, g3, g4, g5, g6, g7, g8, g9, g10⟩ := hT t _ ht
      simp only at g10
      subst g10
      have hb := bounds_ok (P := P) (cap := s.length) h false hel heh h0 h1 h2 (Nat.le_refl _)
      refine op_value hK (c := .string ⟨((s.take hh.toNat).drop l.toNat).toArray⟩) (w' := w) ?_ h (RepT.of (by simp only [Rep]; refine ⟨trivial, ?_⟩; simp; omega)) k
      have hu : (underlying t).run P w = .ok .string w := run_underlying' g2
      have hs : (⟨s.toArray⟩ : ByteArray).size = s.length := by show s.toArray.size = _; simp
      simp only [execOp, ho, Instr.sliceAt, Option.map_none, Sem.run_bind, hu, Result.andThen_ok, Instr.slice, hx, Option.isSome_none, Bool.false_eq_true, if_false, Sem.run_pure, hs, hb]
      congr 3
      apply ByteArray.ext
      apply Array.ext'
      simp [ByteArray.data_extract, List.drop_take]
    · exact k.elim
  · exact k.elim
end
end Go.Aw
