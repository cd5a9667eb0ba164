/-
  TYPES: the readings, as plain functions.
-/
import Derived.Test.YtngbihfihdheoaaTyp1
set_option linter.unusedVariables false
set_option pp.maxSteps 400
namespace Go.Proofs.Ytngbihfihdheoaa
open Go Go.Aw

abbrev Ls := Sum (Int × Sta) (List Nd × Sta)
def takeP (s : Sta) : Rs := if (nextM s).2.2 = 0 then .inr (leafT (nextM s).1, (nextM s).2.1) else .inl ((nextM s).2.2, s)
def badP (s : Sta) : Rs := .inl (badE s, s)
def wantP (s : Sta) (k : Int) (x : List UInt8) : Rs := if isF s k x then takeP s else badP s
/-- may a type begin with it? -/
def startsF (t : Tk) : Bool := t.kind == 2 || t.kind == 4 || t.kind == 1 || (t.kind == 15 && (t.text == [40] || t.text == [91]))
/-- a tree without a text -/
def nodeK (k : Int) (l : List Nd) : Nd := .mk k 0 [] 0 0 l

def rowL (A : Sta → Rs) (l : List Nd) (s : Sta) : Ls :=
  if startsF (nextM s).1 then match A s with
    | .inl e => .inl e
    | .inr p => if mu p.2 < mu s then rowL A (l ++ [p.1]) p.2 else .inl (2, s)
  else .inr (l, s)
termination_by mu s
def rowP (A : Sta → Rs) (s : Sta) : Rs :=
  match A s with
  | .inl e => .inl e
  | .inr p => match rowL A [p.1] p.2 with
    | .inl e => .inl e
    | .inr q => if q.1.length = 1 then .inr (p.1, q.2) else .inr (nodeK 39 q.1, q.2)
def arrL (A : Sta → Rs) (l : List Nd) (s : Sta) : Ls :=
  if isF s 10 [45, 62] then match rowP A (nextM s).2.1 with
    | .inl e => .inl e
    | .inr p => if mu p.2 < mu s then arrL A (l ++ [leafT (nextM s).1, p.1]) p.2 else .inl (2, s)
  else .inr (l, s)
termination_by mu s
def arrowsP (A : Sta → Rs) (n : Nd) (s : Sta) : Rs :=
  match arrL A [n] s with
  | .inl e => .inl e
  | .inr q => if q.1.length = 1 then .inr (n, q.2) else .inr (nodeK 37 q.1, q.2)
def wholeP (A : Sta → Rs) (s : Sta) : Rs :=
  match rowP A s with
  | .inl e => .inl e
  | .inr p => arrowsP A p.1 p.2
def fullP (A : Sta → Rs) (s : Sta) : Rs :=
  match rowP A s with
  | .inl e => .inl e
  | .inr p => if isF p.2 10 [61, 62] then match wholeP A (nextM p.2).2.1 with
      | .inl e => .inl e
      | .inr q => .inr (nodeK 38 [p.1, leafT (nextM p.2).1, q.1], q.2)
    else arrowsP A p.1 p.2
def typesL (Y : Sta → Rs) (l : List Nd) (s : Sta) : Ls :=
  if isF s 15 [44] then match Y (nextM s).2.1 with
    | .inl e => .inl e
    | .inr p => if mu p.2 < mu s then typesL Y (l ++ [leafT (nextM s).1, p.1]) p.2 else .inl (2, s)
  else .inr (l, s)
termination_by mu s
def commaL (l : List Nd) (s : Sta) : List Nd × Sta :=
  if isF s 15 [44] then if mu (nextM s).2.1 < mu s then commaL (l ++ [leafT (nextM s).1]) (nextM s).2.1 else (l, s) else (l, s)
termination_by mu s
/-- the end of what stands in brackets -/
def finP (k : Int) (l : List Nd) (s : Sta) (x : List UInt8) : Rs := match wantP s 15 x with
  | .inl e => .inl e
  | .inr p => .inr (nodeK k (l ++ [p.1]), p.2)
def roundP (Y : Sta → Rs) (s : Sta) : Rs :=
  match takeP s with
  | .inl e => .inl e
  | .inr p =>
    if isF p.2 10 [45, 62] then finP 3 [p.1, leafT (nextM p.2).1] (nextM p.2).2.1 [41]
    else if isF p.2 15 [41] then finP 3 [p.1] p.2 [41]
    else if isF p.2 15 [44] then finP 3 (commaL [p.1] p.2).1 (commaL [p.1] p.2).2 [41]
    else match Y p.2 with
      | .inl e => .inl e
      | .inr q => match typesL Y [p.1, q.1] q.2 with
        | .inl e => .inl e
        | .inr r => finP (if 2 < r.1.length then 5 else 4) r.1 r.2 [41]
def squareP (Y : Sta → Rs) (s : Sta) : Rs :=
  match takeP s with
  | .inl e => .inl e
  | .inr p =>
    if isF p.2 15 [93] then .inr (nodeK 3 [p.1, leafT (nextM p.2).1], (nextM p.2).2.1)
    else match Y p.2 with
      | .inl e => .inl e
      | .inr q => finP 6 [p.1, q.1] q.2 [93]
def atomP (Y : Sta → Rs) (s : Sta) : Rs :=
  if startsF (nextM s).1 then if (nextM s).1.kind = 15 then if (nextM s).1.text = [40] then roundP Y s else squareP Y s else takeP s else badP s
/-- types, so and so deep -/
def typeP : Nat → Sta → Rs
  | 0, s => .inl (2, s)
  | d + 1, s => wholeP (atomP (typeP d)) s

/-- errors are errors -/
def Bads (A : Sta → Rs) : Prop := ∀ s e s', A s = .inl (e, s') → e ≠ 0
/-- what is read is shorter -/
def Falls (A : Sta → Rs) : Prop := ∀ s n s', A s = .inr (n, s') → mu s' < mu s

theorem badE_ne (s : Sta) : badE s ≠ 0 := by
  unfold badE
  split
  · decide
  · rename_i e; exact e
theorem bads_take : Bads takeP := fun s e s' h => by
  unfold takeP at h
  split at h
  · cases h
  · rename_i hn; cases h; exact hn
theorem bads_bad : Bads badP := fun s e s' h => by unfold badP at h; cases h; exact badE_ne s
theorem bads_want {k : Int} {x : List UInt8} : Bads (fun s => wantP s k x) := fun s e s' h => by
  unfold wantP at h
  dsimp only at h
  split at h
  · exact bads_take _ _ _ h
  · exact bads_bad _ _ _ h
theorem bads_fin {k : Int} {l : List Nd} {x : List UInt8} : Bads (fun s => finP k l s x) := fun s e s' h => by
  unfold finP at h
  dsimp only at h
  split at h
  · rename_i e1 hw
    cases h
    exact bads_want _ _ _ hw
  · cases h
theorem rowL_bad {A : Sta → Rs} (hA : Bads A) (l : List Nd) (s : Sta) : ∀ e s', rowL A l s = .inl (e, s') → e ≠ 0 := by
  fun_induction rowL A l s with
  | case1 l s h1 e1 h2 => intro e s' h; cases h; exact hA _ _ _ h2
  | case2 l s h1 p h2 h3 ih => exact ih
  | case3 l s h1 p h2 h3 => intro e s' h; cases h; decide
  | case4 l s h1 => intro e s' h; cases h
theorem bads_row {A : Sta → Rs} (hA : Bads A) : Bads (rowP A) := fun s e s' h => by
  unfold rowP at h
  split at h
  · rename_i h1; cases h; exact hA _ _ _ h1
  · split at h
    · rename_i h1; cases h; exact rowL_bad hA _ _ _ _ h1
    · split at h <;> cases h
theorem arrL_bad {A : Sta → Rs} (hA : Bads A) (l : List Nd) (s : Sta) : ∀ e s', arrL A l s = .inl (e, s') → e ≠ 0 := by
  fun_induction arrL A l s with
  | case1 l s h1 e1 h2 => intro e s' h; cases h; exact bads_row hA _ _ _ h2
  | case2 l s h1 p h2 h3 ih => exact ih
  | case3 l s h1 p h2 h3 => intro e s' h; cases h; decide
  | case4 l s h1 => intro e s' h; cases h
theorem bads_arrows {A : Sta → Rs} (hA : Bads A) {n : Nd} : Bads (arrowsP A n) := fun s e s' h => by
  unfold arrowsP at h
  split at h
  · rename_i h1; cases h; exact arrL_bad hA _ _ _ _ h1
  · split at h <;> cases h
theorem bads_whole {A : Sta → Rs} (hA : Bads A) : Bads (wholeP A) := fun s e s' h => by
  unfold wholeP at h
  split at h
  · rename_i h1; cases h; exact bads_row hA _ _ _ h1
  · exact bads_arrows hA _ _ _ h
theorem bads_full {A : Sta → Rs} (hA : Bads A) : Bads (fullP A) := fun s e s' h => by
  unfold fullP at h
  split at h
  · rename_i h1; cases h; exact bads_row hA _ _ _ h1
  · split at h
    · split at h
      · rename_i h1; cases h; exact bads_whole hA _ _ _ h1
      · cases h
    · exact bads_arrows hA _ _ _ h
theorem typesL_bad {Y : Sta → Rs} (hY : Bads Y) (l : List Nd) (s : Sta) : ∀ e s', typesL Y l s = .inl (e, s') → e ≠ 0 := by
  fun_induction typesL Y l s with
  | case1 l s h1 e1 h2 => intro e s' h; cases h; exact hY _ _ _ h2
  | case2 l s h1 p h2 h3 ih => exact ih
  | case3 l s h1 p h2 h3 => intro e s' h; cases h; decide
  | case4 l s h1 => intro e s' h; cases h
theorem bads_round {Y : Sta → Rs} (hY : Bads Y) : Bads (roundP Y) := fun s e s' h => by
  unfold roundP at h
  split at h
  · rename_i h1; cases h; exact bads_take _ _ _ h1
  · split at h
    · exact bads_fin _ _ _ h
    · split at h
      · exact bads_fin _ _ _ h
      · split at h
        · exact bads_fin _ _ _ h
        · split at h
          · rename_i h1; cases h; exact hY _ _ _ h1
          · split at h
            · rename_i h1; cases h; exact typesL_bad hY _ _ _ _ h1
            · exact bads_fin _ _ _ h
theorem bads_square {Y : Sta → Rs} (hY : Bads Y) : Bads (squareP Y) := fun s e s' h => by
  unfold squareP at h
  split at h
  · rename_i h1; cases h; exact bads_take _ _ _ h1
  · split at h
    · cases h
    · split at h
      · rename_i h1; cases h; exact hY _ _ _ h1
      · exact bads_fin _ _ _ h
theorem bads_atom {Y : Sta → Rs} (hY : Bads Y) : Bads (atomP Y) := fun s e s' h => by
  unfold atomP at h
  split at h
  · split at h
    · split at h
      · exact bads_round hY _ _ _ h
      · exact bads_square hY _ _ _ h
    · exact bads_take _ _ _ h
  · exact bads_bad _ _ _ h
theorem bads_type : ∀ d, Bads (typeP d)
  | 0 => fun s e s' h => by cases h; decide
  | d + 1 => bads_whole (bads_atom (bads_type d))

theorem take_mu {s : Sta} {n : Nd} {s' : Sta} (h : takeP s = .inr (n, s')) : mu s' ≤ mu s ∧ ((nextM s).1.kind ≠ 21 → mu s' < mu s) := by
  unfold takeP at h
  split at h
  · rename_i e; cases h; exact next_mu e
  · cases h
theorem want_mu {s : Sta} {k : Int} {x : List UInt8} {n : Nd} {s' : Sta} (hk : k ≠ 0) (hk2 : k ≠ 21) (h : wantP s k x = .inr (n, s')) : mu s' < mu s := by
  unfold wantP at h
  split at h
  · rename_i e
    unfold takeP at h
    rw [if_pos (isF_ok e hk)] at h
    cases h
    exact isF_mu e hk hk2
  · cases h
theorem fin_mu {s : Sta} {k : Int} {l : List Nd} {x : List UInt8} {n : Nd} {s' : Sta} (h : finP k l s x = .inr (n, s')) : mu s' < mu s := by
  unfold finP at h
  split at h
  · cases h
  · rename_i h1; cases h; exact want_mu (by decide) (by decide) h1
theorem starts_mu {s : Sta} {n : Nd} {s' : Sta} (hs : startsF (nextM s).1 = true) (h : takeP s = .inr (n, s')) : mu s' < mu s := by
  refine (take_mu h).2 fun e => ?_
  unfold startsF at hs
  rw [e] at hs
  simp at hs
theorem rowL_mu {A : Sta → Rs} (l : List Nd) (s : Sta) : ∀ q s', rowL A l s = .inr (q, s') → mu s' ≤ mu s := by
  fun_induction rowL A l s with
  | case1 l s h1 e1 h2 => intro e s' h; cases h
  | case2 l s h1 p h2 h3 ih => intro e s' h; have := ih e s' h; omega
  | case3 l s h1 p h2 h3 => intro e s' h; cases h
  | case4 l s h1 => intro e s' h; cases h; exact Nat.le_refl _
theorem falls_row {A : Sta → Rs} (hA : Falls A) : Falls (rowP A) := fun s n s' h => by
  unfold rowP at h
  split at h
  · cases h
  · rename_i h1
    have := hA _ _ _ h1
    split at h
    · cases h
    · rename_i h2
      have := rowL_mu _ _ _ _ h2
      split at h <;> (cases h; omega)
theorem arrL_mu {A : Sta → Rs} (l : List Nd) (s : Sta) : ∀ q s', arrL A l s = .inr (q, s') → mu s' ≤ mu s := by
  fun_induction arrL A l s with
  | case1 l s h1 e1 h2 => intro e s' h; cases h
  | case2 l s h1 p h2 h3 ih => intro e s' h; have := ih e s' h; omega
  | case3 l s h1 p h2 h3 => intro e s' h; cases h
  | case4 l s h1 => intro e s' h; cases h; exact Nat.le_refl _
theorem arrows_mu {A : Sta → Rs} {n m : Nd} {s s' : Sta} (h : arrowsP A n s = .inr (m, s')) : mu s' ≤ mu s := by
  unfold arrowsP at h
  split at h
  · cases h
  · rename_i h1
    have := arrL_mu _ _ _ _ h1
    split at h <;> (cases h; exact this)
theorem falls_whole {A : Sta → Rs} (hA : Falls A) : Falls (wholeP A) := fun s n s' h => by
  unfold wholeP at h
  split at h
  · cases h
  · rename_i h1
    have := falls_row hA _ _ _ h1
    have := arrows_mu h
    omega
theorem typesL_mu {Y : Sta → Rs} (l : List Nd) (s : Sta) : ∀ q s', typesL Y l s = .inr (q, s') → mu s' ≤ mu s := by
  fun_induction typesL Y l s with
  | case1 l s h1 e1 h2 => intro e s' h; cases h
  | case2 l s h1 p h2 h3 ih => intro e s' h; have := ih e s' h; omega
  | case3 l s h1 p h2 h3 => intro e s' h; cases h
  | case4 l s h1 => intro e s' h; cases h; exact Nat.le_refl _
theorem commaL_mu (l : List Nd) (s : Sta) : mu (commaL l s).2 ≤ mu s := by
  fun_induction commaL l s with
  | case1 l s h1 h2 ih => omega
  | case2 l s h1 h2 => exact Nat.le_refl _
  | case3 l s h1 => exact Nat.le_refl _
theorem round_mu {Y : Sta → Rs} (hY : Falls Y) {s : Sta} {n : Nd} {s' : Sta} (hs : startsF (nextM s).1 = true) (h : roundP Y s = .inr (n, s')) : mu s' < mu s := by
  unfold roundP at h
  split at h
  · cases h
  · rename_i h1
    have := starts_mu hs h1
    split at h
    · rename_i h2
      have := isF_mu h2 (by decide) (by decide)
      have := fin_mu h
      omega
    · split at h
      · have := fin_mu h; omega
      · split at h
        · have := fin_mu h
          have := commaL_mu [‹Nd × Sta›.1] ‹Nd × Sta›.2
          omega
        · split at h
          · cases h
          · rename_i h2
            have := hY _ _ _ h2
            split at h
            · cases h
            · rename_i h3
              have := typesL_mu _ _ _ _ h3
              have := fin_mu h
              omega
theorem square_mu {Y : Sta → Rs} (hY : Falls Y) {s : Sta} {n : Nd} {s' : Sta} (hs : startsF (nextM s).1 = true) (h : squareP Y s = .inr (n, s')) : mu s' < mu s := by
  unfold squareP at h
  split at h
  · cases h
  · rename_i h1
    have := starts_mu hs h1
    split at h
    · rename_i h2
      have := isF_mu h2 (by decide) (by decide)
      cases h
      omega
    · split at h
      · cases h
      · rename_i h2
        have := hY _ _ _ h2
        have := fin_mu h
        omega
theorem falls_atom {Y : Sta → Rs} (hY : Falls Y) : Falls (atomP Y) := fun s n s' h => by
  unfold atomP at h
  split at h
  · rename_i hs
    split at h
    · split at h
      · exact round_mu hY hs h
      · exact square_mu hY hs h
    · exact starts_mu hs h
  · cases h
theorem falls_type : ∀ d, Falls (typeP d)
  | 0 => fun s n s' h => by cases h
  | d + 1 => falls_whole (falls_atom (falls_type d))
end Go.Proofs.Ytngbihfihdheoaa
