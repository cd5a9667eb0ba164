/-
  PATTERNS, PART 9: plain laws of the plain functions: fuel is free; brackets, tuples, arguments.
-/
import Derived.Test.YtmhmkpiliejmdaaPat8
set_option linter.unusedVariables false
set_option linter.unusedSimpArgs false
set_option pp.maxSteps 400
namespace Go.Proofs.Ytmhmkpiliejmdaa
open Go Go.Aw

theorem partedG_congr {p q : Nd → Bool} : ∀ {l : List Nd} {b : Bool}, (∀ x ∈ l, p x = q x) → partedG p b l = partedG q b l
  | [], _, _ => by simp [partedG]
  | x :: r, b, h => by
    rw [partedG, partedG, h x List.mem_cons_self, partedG_congr fun y hy => h y (List.mem_cons_of_mem _ hy)]
theorem partedF_congr {p q : Nd → Bool} {l : List Nd} (h : ∀ x ∈ l, p x = q x) : partedF p l = partedF q l := by
  rw [partedF, partedF, partedG_congr h]
theorem allB_congr {p q : Nd → Bool} : ∀ {l : List Nd}, (∀ x ∈ l, p x = q x) → allB p l = allB q l
  | [], _ => rfl
  | x :: r, h => by rw [allB, allB, h x List.mem_cons_self, allB_congr fun y hy => h y (List.mem_cons_of_mem _ hy)]
theorem besideF_congr {p q : Nd → Bool} {l : List Nd} (h : ∀ x ∈ l, p x = q x) : besideF p l = besideF q l := by
  have : allB (besideG p) l = allB (besideG q) l := allB_congr fun x hx => by simp only [besideG, h x hx]
  rw [besideF, besideF, this]
theorem rowS_congr {p q : Nd → Bool} : ∀ {l : List Nd} {s : Nat}, (∀ x ∈ l, p x = q x) → rowS p s l = rowS q s l
  | [], s, _ => by
    match s with
    | 0 => rfl
    | 1 => rfl
    | 2 => rfl
    | s + 3 => rfl
  | x :: r, s, h => by
    have h1 := h x List.mem_cons_self
    have hr := fun s => rowS_congr (l := r) (s := s) fun y hy => h y (List.mem_cons_of_mem _ hy)
    match s with
    | 0 => simp only [rowS, h1, hr]
    | 1 => simp only [rowS, h1, hr]
    | 2 => simp only [rowS, h1, hr]
    | s + 3 => simp only [rowS, h1, hr]
theorem any_congr {p q : Nd → Bool} {l : List Nd} {i : Nat} (h : ∀ x ∈ l, p x = q x) : l[i]?.any p = l[i]?.any q := by
  cases hx : l[i]? with
  | none => rfl
  | some x => exact h x (List.mem_of_getElem? hx)
theorem bracketedF_congr {p q : Nd → Bool} {n : Nd} {o s : List UInt8} {least : Int} {one : Bool} (h : ∀ x ∈ n.kids, p x = q x) : bracketedF p n o s least one = bracketedF q n o s least one := by
  unfold bracketedF
  cases hf : framedF n o s with
  | none => rfl
  | some l => simp only [partedF_congr fun x hx => h x (framed_mem hf x hx)]
theorem recordF_congr {p q : Nd → Bool} {n : Nd} (h : ∀ x ∈ n.kids, ∀ y ∈ x.kids, p y = q y) : recordF p n = recordF q n := by
  unfold recordF
  cases hf : framedF (.mk 0 0 [] 0 0 (n.kids.drop 1)) [123] [125] with
  | none => rfl
  | some l =>
    have : partedF (fieldF p) l = partedF (fieldF q) l := partedF_congr fun x hx => by
      have hx' := List.mem_of_mem_drop (framed_mem (n := .mk 0 0 [] 0 0 (n.kids.drop 1)) hf x hx)
      rw [fieldF, fieldF, any_congr (h x hx')]
    simp only [this]
theorem mayStep_congr {p q : Nd → Bool} {n : Nd} (h : ∀ x, x.size < n.size → p x = q x) : mayStep p n = mayStep q n := by
  have hk : ∀ x ∈ n.kids, p x = q x := fun x hx => h x (size_kid hx)
  have hkk : ∀ x ∈ n.kids, ∀ y ∈ x.kids, p y = q y := fun x hx y hy => h y (Nat.lt_trans (size_kid hy) (size_kid hx))
  simp only [mayStep, any_congr hk, bracketedF_congr hk, recordF_congr hkk, besideF_congr fun x hx => hk x (List.mem_of_mem_drop hx), rowS_congr hk]
theorem mayK_free : ∀ {k k' : Nat} {n : Nd}, n.size ≤ k → n.size ≤ k' → mayK k n = mayK k' n
  | 0, _, n, h, _ => by have := size_pos n; omega
  | _, 0, n, _, h => by have := size_pos n; omega
  | k + 1, k' + 1, n, h, h' => by
    rw [mayK, mayK]
    exact mayStep_congr fun x hx => mayK_free (by omega) (by omega)
theorem mayF_step {n : Nd} : mayF n = mayStep mayF n := by
  unfold mayF
  obtain ⟨k, hk⟩ : ∃ k, n.size = k + 1 := ⟨n.size - 1, by have := size_pos n; omega⟩
  rw [hk, mayK]
  exact mayStep_congr fun x hx => mayK_free (by omega) (Nat.le_refl _)

theorem namesG_congr {p q : Nd → List (List UInt8)} {b : Bool} : ∀ {l : List Nd} {i : Nat}, (∀ x ∈ l, p x = q x) → namesG p b i l = namesG q b i l
  | [], _, _ => rfl
  | x :: r, i, h => by
    rw [namesG, namesG, h x List.mem_cons_self, namesG_congr fun y hy => h y (List.mem_cons_of_mem _ hy)]
theorem namesStep_congr {p q : Nd → List (List UInt8)} {n : Nd} (h : ∀ x, x.size < n.size → p x = q x) : namesStep p n = namesStep q n := by
  unfold namesStep
  rw [namesG_congr fun x hx => h x (size_kid hx)]
theorem namesK_free : ∀ {k k' : Nat} {n : Nd}, n.size ≤ k → n.size ≤ k' → namesK k n = namesK k' n
  | 0, _, n, h, _ => by have := size_pos n; omega
  | _, 0, n, _, h => by have := size_pos n; omega
  | k + 1, k' + 1, n, h, h' => by
    rw [namesK, namesK]
    exact namesStep_congr fun x hx => namesK_free (by omega) (by omega)
def namesF (n : Nd) : List (List UInt8) := namesK n.size n
theorem namesF_step {n : Nd} : namesF n = namesStep namesF n := by
  unfold namesF
  obtain ⟨k, hk⟩ : ∃ k, n.size = k + 1 := ⟨n.size - 1, by have := size_pos n; omega⟩
  rw [hk, namesK]
  exact namesStep_congr fun x hx => namesK_free (by omega) (Nat.le_refl _)
theorem namesG_len {q : Nd → List (List UInt8)} {b : Bool} : ∀ {l : List Nd} {i : Nat}, (∀ x ∈ l, (q x).length ≤ x.size) → (namesG q b i l).length ≤ sizes l
  | [], _, _ => by simp [namesG, sizes]
  | x :: r, i, h => by
    have := namesG_len (b := b) (l := r) (i := i + 1) fun y hy => h y (List.mem_cons_of_mem _ hy)
    have := h x List.mem_cons_self
    rw [namesG, List.length_append, sizes]
    split
    · omega
    · simp only [List.length_nil]; omega
theorem namesK_len : ∀ {k : Nat} {n : Nd}, (namesK k n).length ≤ n.size
  | 0, n => Nat.zero_le _
  | k + 1, n => by
    rw [namesK, namesStep]
    have := size_pos n
    split
    · simp only [List.length_cons, List.length_nil]; omega
    · split
      · simp
      · have := namesG_len (b := n.kind == 13) (l := n.kids) (i := 0) (q := namesK k) fun x _ => namesK_len
        cases n with
        | mk a b c d e ks => rw [Nd.size]; show (namesG _ _ 0 ks).length ≤ _; have : (namesG (namesK k) (a == 13) 0 ks).length ≤ sizes ks := this; show (namesG (namesK k) (a == 13) 0 ks).length ≤ _; omega
theorem namesE_eq {n : Nd} : namesE n = if mayF n then (namesF n, 0) else ([], 120) := rfl

/-! ### a leaf that stands between -/
theorem names_punct {t : List UInt8} : namesF (leafN 15 t) = [] := by
  rw [namesF_step]
  rfl
theorem said_leaf {k : Int} {t : List UInt8} : saidF (leafN k t) k t = true := by
  simp [saidF, isF, leafN, Nd.kind, Nd.form, Nd.text]

/-! ### brackets -/
def parenN (n : Nd) : Nd := .mk 4 0 [] 0 0 [leafN 15 [40], n, leafN 15 [41]]
theorem may_paren {n : Nd} : mayF (parenN n) = mayF n := by
  rw [mayF_step]
  have e : framedF (parenN n) [40] [41] = some [n] := framed3 (x := leafN 15 [40]) (z := leafN 15 [41]) rfl rfl rfl rfl said_leaf said_leaf
  have : mayStep mayF (parenN n) = bracketedF mayF (parenN n) [40] [41] 1 true := rfl
  rw [this, bracketedF, e]
  simp [partedF, partedG]
theorem names_paren {n : Nd} : namesF (parenN n) = namesF n := by
  rw [namesF_step]
  have : namesStep namesF (parenN n) = namesF (leafN 15 [40]) ++ (namesF n ++ (namesF (leafN 15 [41]) ++ [])) := by
    rw [namesStep, var_paren rfl]
    simp [parenN, Nd.kind, Nd.kids, namesG]
  rw [this, names_punct, names_punct]
  simp
theorem check_paren {n : Nd} : checkF (parenN n) = checkF n := by rw [checkF, checkF, may_paren]
theorem namesE_paren {n : Nd} : namesE (parenN n) = namesE n := by rw [namesE_eq, namesE_eq, may_paren, names_paren]
theorem namesE_check {n : Nd} : (namesE n).2 = checkF n := by
  rw [namesE_eq, checkF]; split <;> rfl

section
variable {st : St} {R : Res → St → Prop}
theorem namesA_c {n : Nd} (hl : n.size ≤ 1000000000) (h : R (.ret (.tup [.slice 1 (strs (namesE n).1) .any, .int .i64 (namesE n).2])) st) : PC 14 [enc n] st R :=
  names_all (Nat.le_trans namesK_len hl) h
theorem enc_mk {k f : Int} {t : List UInt8} {l c : Int} {ks : List Nd} : enc (.mk k f t l c ks) = .agg [.int .i64 k, .int .i64 f, .str t, .int .i64 l, .int .i64 c, .slice 6 (ks.map encN) .any] := by
  rw [enc, encN, encs_map]; rfl
def cellsP (n : Nd) : V := .agg [.int .i64 4, .int .i64 0, .str [], .int .i64 0, .int .i64 0, .slice 6 [encN (leafN 15 [40]), encN n, encN (leafN 15 [41])] .any]
theorem enc_paren {n : Nd} : enc (parenN n) = cellsP n := enc_mk
theorem namesP_c {n : Nd} (hl : n.size ≤ 100000000) (h : R (.ret (.tup [.slice 1 (strs (namesE n).1) .any, .int .i64 (namesE n).2])) st) : PC 14 [cellsP n] st R := by
  have hs : (parenN n).size ≤ 1000000000 := by simp only [parenN, leafN, Nd.size, sizes]; omega
  rw [← enc_paren]
  refine namesA_c hs ?_
  rw [namesE_paren]; exact h
theorem checkP_c {n : Nd} (h : R (.ret (.int .i64 (checkF n))) st) : PC 9 [cellsP n] st R := by
  rw [← enc_paren]
  refine check_c ?_
  rw [check_paren]; exact h
theorem lawBrackets_c {n : Nd} (hl : n.size ≤ 100000000) (h : R (.ret (.bool true)) st) : PC 5 [enc n] st R := by
  refine pcalls_of_body tys_ok [] Try.func5 rfl (by decide) ?_
  repeat' (conv => whnf
           first
             | with_reducible exact quiet_same
             | with_reducible exact quiet_bool
             | with_reducible exact quiet_not
             | with_reducible refine draw_step (by kernel_rfl) ?_
             | with_reducible refine quiet_go ?_ ?_ ?_
             | with_reducible refine bcase_len (by decide) (fun _ => ?_) (fun _ => ?_)
             | with_reducible refine bcase_eq (fun _ => ?_) (fun _ => ?_)
             | with_reducible refine bcase_dec (fun _ => ?_) (fun _ => ?_)
             | with_reducible refine bcase_true ?_
             | with_reducible refine bcase_false ?_
             | with_reducible refine bcase_intro (fun _ => ?_) (fun _ => ?_)
             | with_reducible refine len_kids (fun _ => ?_)
             | with_reducible refine at_known (by assumption) (by omega) ?_
             | with_reducible refine at_kid (by omega) (by omega) (fun _ _ _ => ?_)
             | with_reducible refine tail_kids (by omega) (by omega) ?_
             | with_reducible refine slice_kids (by omega) (by omega) (by omega) ?_
             | with_reducible refine ex_wrap (by omega) (by omega) ?_
             | with_reducible refine quo_step (by decide) (by omega) (by omega) ?_
             | with_reducible refine rem_step (by decide) ?_
             | refine awake_c ?_
             | refine leaf_c ?_
             | refine pcalls_wk (args' := [enc n]) (by rfl) (namesA_c (n := n) (by omega) ?_)
             | refine pcalls_wk (args' := [cellsP n]) (by rfl) (namesP_c hl ?_)
             | refine pcalls_wk (args' := [enc n]) (by rfl) (check_c (n := n) ?_)
             | refine pcalls_wk (args' := [cellsP n]) (by rfl) (checkP_c ?_)
             | refine same_true (a := (namesE n).1) ?_)
  all_goals try conv => whnf
  all_goals first | exact fin h rfl | exact absurd rfl (by assumption) | exact absurd namesE_check (by assumption)
end
end Go.Proofs.Ytmhmkpiliejmdaa
