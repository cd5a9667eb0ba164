/-
  A TREE OF api.Node, AS A STATEMENT READS IT.
-/
import Derived.Test.YtngbihfihdheoaaTop
import Derived.Test.YtngbihfihdheoaaNode
set_option linter.unusedVariables false
set_option linter.unusedSimpArgs false
namespace Go.Proofs.Ytngbihfihdheoaa
open Go Go.Aw
section
variable {H : Type} {P : Program}

theorem dec_int {n : Nat} {t : TypeId} {k : IntKind} {d : DataW H} {vs : List V} (hu : P.underlying t = some (.int k)) (h : dec P n t d = some vs) : ∃ m, vs = [.int k m] := by
  cases n with
  | zero => cases h
  | succ n =>
    unfold dec at h
    rw [hu] at h
    split at h <;> simp_all
    exact ⟨_, h.symm⟩
theorem dec_str {n : Nat} {t : TypeId} {d : DataW H} {vs : List V} (hu : P.underlying t = some .string) (h : dec P n t d = some vs) : ∃ s, vs = [.str s] ∧ s.length + 1 = Rows.uptoBulk d := by
  cases n with
  | zero => cases h
  | succ n =>
    unfold dec at h
    rw [hu] at h
    split at h <;> simp_all
    exact ⟨_, h.symm, by simp [Rows.uptoBulk]⟩
theorem dec_slice {n : Nat} {t e : TypeId} {d : DataW H} {vs : List V} (hu : P.underlying t = some (.slice e)) (h : dec P n t d = some vs) :
    ∃ (m : Nat) (es : List (List V)) (ds : List (DataW H)), n = m + 1 ∧ vs = [.slice (P.cellsOf e) es .any] ∧ ds.mapM (dec P m e) = some es ∧ Rows.uptoBulkAll ds + 1 ≤ Rows.uptoBulk d := by
  cases n with
  | zero => cases h
  | succ n =>
    unfold dec at h
    rw [hu] at h
    split at h <;> try (simp_all; done)
    · rename_i heq
      cases heq
      cases h
      exact ⟨n, [], [], rfl, rfl, rfl, by simp [Rows.uptoBulk, Rows.uptoBulkAll]⟩
    · rename_i heq
      cases heq
      obtain ⟨es, h1, h2⟩ := Option.map_eq_some_iff.1 h
      exact ⟨n, es, _, rfl, h2.symm, h1, by simp only [Rows.uptoBulk]; omega⟩
theorem dec_struct {n : Nat} {t : TypeId} {fs : Array Field} {d : DataW H} {vs : List V} (hu : P.underlying t = some (.struct fs)) (h : dec P n t d = some vs) :
    ∃ (m : Nat) (ds : List (DataW H)) (us : List (List V)), n = m + 1 ∧ ds.length = fs.size ∧ ((fs.toList.zip ds).mapM fun p => dec P m p.1.type p.2) = some us ∧ vs = us.flatten ∧ Rows.uptoBulkAll ds + 1 = Rows.uptoBulk d := by
  cases n with
  | zero => cases h
  | succ n =>
    unfold dec at h
    rw [hu] at h
    split at h <;> try (simp_all; done)
    rename_i heq
    cases heq
    split at h
    · obtain ⟨us, h1, h2⟩ := Option.map_eq_some_iff.1 h
      exact ⟨n, _, us, rfl, ‹_›, h1, h2.symm, by simp only [Rows.uptoBulk]⟩
    · cases h
theorem mapM_cons_some {α β : Type} {f : α → Option β} {x : α} {l : List α} {r : List β} (h : (x :: l).mapM f = some r) : ∃ y ys, f x = some y ∧ l.mapM f = some ys ∧ r = y :: ys := by
  simp only [List.mapM_cons] at h
  cases hx : f x with
  | none => rw [hx] at h; cases h
  | some y =>
    cases hl : l.mapM f with
    | none => rw [hx, hl] at h; cases h
    | some ys =>
      rw [hx, hl] at h
      cases h
      exact ⟨y, ys, rfl, rfl, rfl⟩
/-- rows of one kind, each element as it is read -/
theorem dec_rows {α : Type} {f : α → List V} {w : α → Nat} {m : Nat} {e : TypeId} (one : ∀ (d : DataW H) (vs : List V), dec P m e d = some vs → ∃ a, vs = f a ∧ w a ≤ Rows.uptoBulk d) : ∀ {ds : List (DataW H)} {es : List (List V)},
    ds.mapM (dec P m e) = some es → ∃ xs : List α, es = xs.map f ∧ (xs.map w).sum ≤ Rows.uptoBulkAll ds
  | [], es, h => by cases h; exact ⟨[], rfl, by simp⟩
  | d :: r, es, h => by
    obtain ⟨y, ys, h1, h2, rfl⟩ := mapM_cons_some h
    obtain ⟨a, rfl, k1⟩ := one d y h1
    obtain ⟨xs, rfl, k2⟩ := dec_rows one h2
    exact ⟨a :: xs, rfl, by simp only [List.map_cons, List.sum_cons, Rows.uptoBulkAll]; omega⟩

theorem sizes_sum : ∀ {l : List Nd}, sizes l = (l.map Nd.size).sum
  | [] => rfl
  | x :: r => by rw [sizes, sizes_sum, List.map_cons, List.sum_cons]
theorem cells_node : Try.prog.cellsOf 30 = 6 := by kernel_rfl
theorem dec_node : ∀ (n : Nat) (d : DataW H) (vs : List V), dec Try.prog n 30 d = some vs → ∃ nd : Nd, vs = encN nd ∧ nd.size ≤ Rows.uptoBulk d := by
  intro n
  induction n using Nat.strongRecOn with
  | _ n ih =>
    intro d vs h
    obtain ⟨m, ds, us, rfl, hl, hm, rfl, hb⟩ := dec_struct Try.underlying30 h
    match ds, hl with
    | [d0, d1, d2, d3, d4, d5], _ =>
      simp only [List.zip_cons_cons, List.zip_nil_right] at hm
      obtain ⟨u0, r0, h0, hm0, rfl⟩ := mapM_cons_some hm
      obtain ⟨u1, r1, h1, hm1, rfl⟩ := mapM_cons_some hm0
      obtain ⟨u2, r2, h2, hm2, rfl⟩ := mapM_cons_some hm1
      obtain ⟨u3, r3, h3, hm3, rfl⟩ := mapM_cons_some hm2
      obtain ⟨u4, r4, h4, hm4, rfl⟩ := mapM_cons_some hm3
      obtain ⟨u5, r5, h5, hm5, rfl⟩ := mapM_cons_some hm4
      cases hm5
      obtain ⟨k, rfl⟩ := dec_int Try.underlying3 h0
      obtain ⟨f, rfl⟩ := dec_int Try.underlying3 h1
      obtain ⟨t, rfl, _⟩ := dec_str Try.underlying9 h2
      obtain ⟨l, rfl⟩ := dec_int Try.underlying3 h3
      obtain ⟨c, rfl⟩ := dec_int Try.underlying3 h4
      obtain ⟨m', es, dss, rfl, rfl, hes, hb'⟩ := dec_slice Try.underlying28 h5
      obtain ⟨ks, rfl, hks⟩ := dec_rows (f := encN) (w := Nd.size) (fun d vs => ih m' (by omega) d vs) hes
      refine ⟨.mk k f t l c ks, ?_, ?_⟩
      · simp only [encN, Nd.kind, Nd.form, Nd.text, Nd.line, Nd.col, Nd.kids, encs_map, cells_node]; rfl
      · rw [Nd.size, sizes_sum]
        simp only [Rows.uptoBulkAll] at hb
        have hb5 : Rows.uptoBulkAll dss + 1 ≤ Rows.uptoBulk d5 := hb'
        omega
end
end Go.Proofs.Ytngbihfihdheoaa
