/-
  A STATE, AS A STATEMENT READS IT.
-/
import Derived.Test.YtngbihfihdheoaaTop2
import Derived.Test.YtngbihfihdheoaaLay1
set_option linter.unusedVariables false
set_option linter.unusedSimpArgs false
namespace Go.Proofs.Ytngbihfihdheoaa
open Go Go.Aw
section
variable {H : Type}
theorem dec_tok {n : Nat} (d : DataW H) (vs : List V) (h : dec Try.prog n 47 d = some vs) : ∃ t : Tk, vs = t.cells ∧ 1 ≤ Rows.uptoBulk d := by
  obtain ⟨m, ds, us, rfl, hl, hm, rfl, hb⟩ := dec_struct Try.underlying47 h
  match ds, hl with
  | [d0, d1, d2, d3], _ =>
    simp only [List.zip_cons_cons, List.zip_nil_right] at hm
    obtain ⟨u0, r0, h0, hm0, rfl⟩ := mapM_cons_some hm
    obtain ⟨u1, r1, h1, hm1, rfl⟩ := mapM_cons_some hm0
    obtain ⟨u2, r2, h2, hm2, rfl⟩ := mapM_cons_some hm1
    obtain ⟨u3, r3, h3, hm3, rfl⟩ := mapM_cons_some hm2
    cases hm3
    obtain ⟨k, rfl⟩ := dec_int Try.underlying3 h0
    obtain ⟨t, rfl, _⟩ := dec_str Try.underlying9 h1
    obtain ⟨l, rfl⟩ := dec_int Try.underlying3 h2
    obtain ⟨c, rfl⟩ := dec_int Try.underlying3 h3
    exact ⟨⟨k, t, l, c⟩, rfl, by omega⟩
theorem ones_sum {α : Type} : ∀ l : List α, (l.map fun _ => 1).sum = l.length
  | [] => rfl
  | a :: r => by rw [List.map_cons, List.sum_cons, ones_sum r, List.length_cons]; omega
theorem cells_tok : Try.prog.cellsOf 47 = 4 := by kernel_rfl
theorem cells_int : Try.prog.cellsOf 3 = 1 := by kernel_rfl
theorem dec_toks {n : Nat} {d : DataW H} {vs : List V} (h : dec Try.prog n 22 d = some vs) : ∃ l : List Tk, vs = [.slice 4 (encTs l) .any] ∧ l.length ≤ Rows.uptoBulk d := by
  obtain ⟨m, es, ds, rfl, rfl, hes, hb⟩ := dec_slice Try.underlying22 h
  obtain ⟨l, rfl, hs⟩ := dec_rows (f := Tk.cells) (w := fun _ => 1) (fun d vs h => dec_tok d vs h) hes
  refine ⟨l, by rw [cells_tok]; rfl, ?_⟩
  have : (l.map fun _ => 1).sum = l.length := by
    exact ones_sum l
  omega
theorem dec_ints {n : Nat} {d : DataW H} {vs : List V} (h : dec Try.prog n 23 d = some vs) : ∃ l : List Int, vs = [.slice 1 (ints l) .any] := by
  obtain ⟨m, es, ds, rfl, rfl, hes, hb⟩ := dec_slice Try.underlying23 h
  obtain ⟨l, rfl, hs⟩ := dec_rows (f := fun n => [V.int .i64 n]) (w := fun _ => 0) (fun d vs h => by
    obtain ⟨k, rfl⟩ := dec_int Try.underlying3 h
    exact ⟨k, rfl, Nat.zero_le _⟩) hes
  exact ⟨l, by rw [cells_int]; rfl⟩
theorem dec_state {n : Nat} {d : DataW H} {vs : List V} (h : dec Try.prog n 25 d = some vs) : ∃ s : Sta, vs = s.cells := by
  obtain ⟨m, ds, us, rfl, hl, hm, rfl, hb⟩ := dec_struct Try.underlying25 h
  match ds, hl with
  | [d0, d1, d2, d3], _ =>
    simp only [List.zip_cons_cons, List.zip_nil_right] at hm
    obtain ⟨u0, r0, h0, hm0, rfl⟩ := mapM_cons_some hm
    obtain ⟨u1, r1, h1, hm1, rfl⟩ := mapM_cons_some hm0
    obtain ⟨u2, r2, h2, hm2, rfl⟩ := mapM_cons_some hm1
    obtain ⟨u3, r3, h3, hm3, rfl⟩ := mapM_cons_some hm2
    cases hm3
    obtain ⟨ts, rfl, _⟩ := dec_toks h0
    obtain ⟨p, rfl⟩ := dec_int Try.underlying3 h1
    obtain ⟨os, rfl⟩ := dec_ints h2
    obtain ⟨w, rfl⟩ := dec_int Try.underlying3 h3
    exact ⟨⟨ts, p, os, w⟩, rfl⟩
end
end Go.Proofs.Ytngbihfihdheoaa
