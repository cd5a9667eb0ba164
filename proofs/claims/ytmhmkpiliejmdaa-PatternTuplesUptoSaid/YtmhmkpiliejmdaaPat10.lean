/-
  PATTERNS, PART 10: tuples and arguments.
-/
import Derived.Test.YtmhmkpiliejmdaaPat9
set_option linter.unusedVariables false
set_option linter.unusedSimpArgs false
set_option pp.maxSteps 400
namespace Go.Proofs.Ytmhmkpiliejmdaa
open Go Go.Aw

theorem Own.comm {a b : Own} {st : St} {m n : Nat} (hb : b.good st) (ha : a.good (b.st st n)) : a.st (b.st st n) m = b.st (a.st st m) n ∧ a.good st ∧ b.good (a.st st m) := by
  cases a with
  | any => exact ha.elim
  | full => exact ⟨rfl, trivial, hb⟩
  | tok x =>
    cases b with
    | any => exact hb.elim
    | full => exact ⟨rfl, ha, trivial⟩
    | tok y =>
      have ha : (st.setHw y n).fresh x := ha
      have hb : st.fresh y := hb
      have hne : x ≠ y := fun e => by
        subst e
        have := ha.2
        simp [St.setHw] at this
      refine ⟨?_, ⟨ha.1, ?_⟩, ⟨hb.1, ?_⟩⟩
      · simp only [Own.st, St.setHw]
        congr 1
        funext z
        by_cases h1 : z = x
        · subst h1; simp [hne]
        · by_cases h2 : z = y
          · subst h2; simp [Ne.symm hne]
          · simp [h1, h2]
      · have := ha.2
        simp only [St.setHw] at this
        rwa [if_neg hne] at this
      · simp only [Own.st, St.setHw]
        rw [if_neg (fun e => hne e.symm)]; exact hb.2
theorem app_nodes {l new : List Nd} {own : Own} {st : St} {K : V → St → Prop} (h : own.good st) (hb : l.length + new.length ≤ 1000000000)
    (k : ∀ own' : Own, own'.good st → K (.slice 6 (encs (l ++ new)) own') (own'.st st ((l ++ new).length * 6))) : appendTo 6 72 (encs l) own (encs new) (own.st st (l.length * 6)) K := by
  have hw : (encs new).map (·.map V.wk0) = encs new := by
    rw [encs_map, List.map_map]
    refine List.map_congr_left fun x _ => ?_
    rfl
  have hsc : ((encs new).all fun v => v.all V.sc) = true := by
    rw [encs_map, List.all_map, List.all_eq_true]
    intro x _
    rfl
  have := appendTo_own (sz := 6) (bytes := 72) (es := encs l) (new := encs new) (K := K) h (by rw [encs_length, encs_length]; omega) (by rw [encs_length, encs_length]; simp only [lim]; omega) hsc (fun own' ho => by
    have := k own' ho
    rw [encs_length, encs_length, hw, ← encs_append, ← List.length_append]
    exact this)
  rw [encs_length] at this
  exact this
theorem app_node1 {l : List Nd} {x : Nd} {own : Own} {st : St} {K : V → St → Prop} (h : own.good st) (hb : l.length + 1 ≤ 1000000000)
    (k : ∀ own' : Own, own'.good st → K (.slice 6 (encs (l ++ [x])) own') (own'.st st ((l ++ [x]).length * 6))) : appendTo 6 72 (encs l) own [encN x] (own.st st (l.length * 6)) K := by
  have := app_nodes (l := l) (new := [x]) h hb k
  rw [encs_map [x]] at this
  exact this

/-- trees with commas between -/
def tailK : List Nd → List Nd
  | [] => []
  | x :: r => leafN 15 [44] :: x :: tailK r
def kidsOf : List Nd → List Nd
  | [] => []
  | x :: r => x :: tailK r
theorem tailK_snoc {x : Nd} : ∀ {l : List Nd}, tailK (l ++ [x]) = tailK l ++ [leafN 15 [44], x]
  | [] => rfl
  | y :: r => by rw [List.cons_append, tailK, tailK_snoc]; rfl
theorem kidsOf_snoc {x : Nd} {l : List Nd} (h : l ≠ []) : kidsOf (l ++ [x]) = (kidsOf l ++ [leafN 15 [44]]) ++ [x] := by
  cases l with
  | nil => exact absurd rfl h
  | cons y r => rw [List.cons_append, kidsOf, kidsOf, tailK_snoc]; simp
theorem tailK_len : ∀ {l : List Nd}, (tailK l).length = 2 * l.length
  | [] => rfl
  | x :: r => by rw [tailK, List.length_cons, List.length_cons, tailK_len, List.length_cons]; omega
theorem kidsOf_len {l : List Nd} : (kidsOf l).length = 2 * l.length - 1 := by
  cases l with
  | nil => rfl
  | cons x r => rw [kidsOf, List.length_cons, tailK_len, List.length_cons]; omega
def allMay (l : List Nd) : Bool := l.all mayF
theorem parted_tail : ∀ {l : List Nd}, partedG mayF true (tailK l) = allMay l
  | [] => rfl
  | x :: r => by
    rw [tailK, partedG, partedG, if_pos rfl, said_leaf, show (!true) = false from rfl, if_neg (by decide), show (!false) = true from rfl, parted_tail, Bool.true_and]
    rfl
theorem parted_kids {l : List Nd} (h : l ≠ []) : partedF mayF (kidsOf l) = allMay l := by
  cases l with
  | nil => exact absurd rfl h
  | cons x r =>
    have h2 : (2 * (x :: r).length - 1) % 2 = 1 := by simp only [List.length_cons]; omega
    rw [partedF, kidsOf_len, h2, kidsOf, partedG, if_neg (by decide), show (!false) = true from rfl, parted_tail]
    rfl
theorem namesG_flat {q : Nd → List (List UInt8)} : ∀ {l : List Nd} {i : Nat}, namesG q false i l = l.flatMap q
  | [], _ => rfl
  | x :: r, i => by rw [namesG, if_pos (.inr rfl), namesG_flat, List.flatMap_cons]
theorem flat_tail : ∀ {l : List Nd}, (tailK l).flatMap namesF = l.flatMap namesF
  | [] => rfl
  | x :: r => by rw [tailK, List.flatMap_cons, List.flatMap_cons, names_punct, flat_tail, List.flatMap_cons]; rfl
theorem flat_kids {l : List Nd} : (kidsOf l).flatMap namesF = l.flatMap namesF := by
  cases l with
  | nil => rfl
  | cons x r => rw [kidsOf, List.flatMap_cons, flat_tail, List.flatMap_cons]
def tupN (kind : Int) (o s : List UInt8) (l : List Nd) : Nd := .mk kind 0 [] 0 0 (([leafN 15 o] ++ kidsOf l) ++ [leafN 15 s])
theorem framed_tup {kind : Int} {o s : List UInt8} {l : List Nd} : framedF (tupN kind o s l) o s = some (kidsOf l) := by
  have hl : (tupN kind o s l).kids.length = (kidsOf l).length + 2 := by simp [tupN, kids_mk]
  have hm : midF (tupN kind o s l) = kidsOf l := by
    simp only [midF, tupN, kids_mk, List.length_append, List.length_cons, List.length_nil]
    rw [show 0 + 1 + (kidsOf l).length + (0 + 1) - 1 = ([leafN 15 o] ++ kidsOf l).length by simp; omega, List.take_left' rfl]
    rfl
  rw [framedF_eq, hm, if_pos]
  refine ⟨by omega, ?_, ?_⟩
  · simp [firstF, tupN, kids_mk, said_leaf]
  · have : (tupN kind o s l).kids[(tupN kind o s l).kids.length - 1]? = some (leafN 15 s) := by
      rw [hl]
      simp only [tupN, kids_mk]
      rw [List.getElem?_append_right (by simp)]
      simp
    simp [lastF, this, said_leaf]
def tupE (l : List Nd) : List (List UInt8) × Int := if allMay l then (l.flatMap namesF, 0) else ([], 120)
theorem namesE_tup {kind : Int} {o s : List UInt8} {l : List Nd} (hk : kind = 5 ∧ o = [40] ∧ s = [41] ∨ kind = 6 ∧ o = [91] ∧ s = [93]) (hl : 2 ≤ l.length) : namesE (tupN kind o s l) = tupE l := by
  have hne : l ≠ [] := fun e => by subst e; simp at hl
  have hm : mayF (tupN kind o s l) = allMay l := by
    rw [mayF_step]
    have hb : ∀ least : Int, least ≤ 2 → bracketedF mayF (tupN kind o s l) o s least false = allMay l := fun least hle => by
      rw [bracketedF, framed_tup]
      simp only [parted_kids hne, kidsOf_len]
      rw [decide_eq_true (by omega)]; rfl
    rcases hk with ⟨rfl, rfl, rfl⟩ | ⟨rfl, rfl, rfl⟩
    · exact hb 2 (by decide)
    · exact hb 1 (by decide)
  have hn : namesF (tupN kind o s l) = l.flatMap namesF := by
    rw [namesF_step, namesStep]
    have hv : variableF (tupN kind o s l) = none := by
      rcases hk with ⟨rfl, _⟩ | ⟨rfl, _⟩ <;> simp [variableF, isF, namedF, tupN, Nd.kind]
    have hkk : (tupN kind o s l).kind = kind := rfl
    rw [hv]
    simp only [hkk]
    rw [if_neg (by omega)]
    have : (kind == 13) = false := by rw [beq_eq_false_iff_ne]; omega
    rw [this, namesG_flat]
    simp only [tupN, kids_mk, List.flatMap_append, flat_kids, List.flatMap_cons, List.flatMap_nil, names_punct, List.append_nil, List.nil_append]
  rw [namesE_eq, hm, hn]; rfl

/-- what the law's loop has gathered of some trees -/
def gotNames (l : List Nd) : List (List UInt8) := l.flatMap fun x => (namesE x).1
def gotErr (l : List Nd) : Int := if allMay l then 0 else 120
theorem gotNames_all {l : List Nd} (h : allMay l = true) : gotNames l = l.flatMap namesF := by
  unfold gotNames
  simp only [allMay, List.all_eq_true] at h
  have : ∀ x ∈ l, (namesE x).1 = namesF x := fun x hx => by rw [namesE_eq, h x hx]; rfl
  induction l with
  | nil => rfl
  | cons x r ih =>
    rw [List.flatMap_cons, List.flatMap_cons, this x List.mem_cons_self, ih (fun y hy => h y (List.mem_cons_of_mem _ hy)) fun y hy => this y (List.mem_cons_of_mem _ hy)]
theorem gotNames_len : ∀ {l : List Nd}, (gotNames l).length ≤ sizes l
  | [] => Nat.le_refl _
  | x :: r => by
    have := gotNames_len (l := r)
    have h1 : ((namesE x).1).length ≤ x.size := by
      rw [namesE_eq]
      split
      · exact namesK_len
      · exact Nat.zero_le _
    unfold gotNames at *
    rw [List.flatMap_cons, List.length_append, sizes]
    omega
theorem take_snoc {l : List Nd} {k : Nat} {x : Nd} (h : l[k]? = some x) : l.take (k + 1) = l.take k ++ [x] := by
  rw [List.take_add_one, h]; rfl
theorem gotNames_snoc {l : List Nd} {x : Nd} : gotNames (l ++ [x]) = gotNames l ++ (namesE x).1 := by simp [gotNames]
theorem gotErr_snoc {l : List Nd} {x : Nd} : gotErr (l ++ [x]) = if (namesE x).2 = 0 then gotErr l else (namesE x).2 := by
  simp only [gotErr, allMay, List.all_append, List.all_cons, List.all_nil, Bool.and_true, namesE_eq]
  by_cases hx : mayF x = true
  · simp [hx]
  · simp [hx]
theorem sizes_take : ∀ {l : List Nd} {k : Nat}, sizes (l.take k) ≤ sizes l
  | [], k => by simp
  | x :: r, 0 => by simp [sizes]
  | x :: r, k + 1 => by rw [List.take_succ_cons, sizes, sizes]; have := sizes_take (l := r) (k := k); omega

end Go.Proofs.Ytmhmkpiliejmdaa
