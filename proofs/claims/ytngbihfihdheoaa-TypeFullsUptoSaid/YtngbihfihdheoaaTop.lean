/-
  FROM A STATEMENT's READING OF ITS ARGUMENTS TO PLAIN DATA, AND BACK.
-/
import Derived.Test.YtngbihfihdheoaaRows
import Derived.Test.YtngbihfihdheoaaTy
import Derived.WalkKit
import Derived.ProofKit
import Derived.OpenShut
import Derived.JoinedCond
import Derived.ReadAgain
set_option linter.unusedVariables false
set_option linter.unusedSimpArgs false
namespace Go.Proofs.Ytngbihfihdheoaa
open Go Go.Aw Go.ChangeShapes Go.WideShapes Go.ChangeAt Go.RowKit

/-- all that stands in the memory -/
def allMem (W : World) : Mem := { cell := fun b o => W.cell? ⟨b, o, none⟩, shape := fun _ => none }
def noSt : St := ⟨fun _ => none, fun _ => none⟩
theorem relS_all (W : World) : RelS (allMem W) noSt W :=
  ⟨fun b o v h => h, fun b n h => (by cases h), fun b cs h => (by cases h), fun b h => absurd rfl h, fun b n h => (by cases h)⟩

/-- the old memory is as it was -/
structure Kept (W W' : World) : Prop where
  os : W'.os = W.os
  output : W'.output = W.output
  size : W.heap.size ≤ W'.heap.size
  old : ∀ b, b < W.heap.size → W'.heap[b]? = W.heap[b]?

theorem law_call {P : Program} {f : FuncId} {vs : List V} {W : World} {args : Array Value} (h : PCalls P f vs noSt fun r _ => r = .ret (.bool true)) (ha : RepL (allMem W) vs args.toList) :
    Calls P f args W fun e W' => e = .returned (.bool true) ∧ Kept W W' := by
  have := h.a (allMem W) W args.toList (relS_all W) ha
  rw [Array.toArray_toList] at this
  refine this.mono fun e W' ⟨I', st', r, k1, k2, k3, k4⟩ => ?_
  subst k4
  refine ⟨?_, k1.os, k1.output, k1.size, fun b hb => k1.old b hb rfl rfl⟩
  cases e with
  | returned v =>
    have k3 : Rep I' (.bool true) v := k3
    simp only [Rep] at k3
    rw [k3]
  | panicked c => exact k3.elim
  | outgrown => exact k3.elim

section
variable {H : Type} {enc : TypeId × Value → H} {P : Program} {W W' : World} {B : Nat}

theorem Kept.sameAt (h : Kept W W') {p : MemPlace} (hp : p.block < W.heap.size) : W.sameAt W' p := by
  cases p with
  | cell b off =>
    have := h.old b hp
    show W'.cell? _ = W.cell? _
    simp only [World.cell?, this]
  | map b => exact h.old b hp
theorem Kept.frozen (h : Kept W W') {b off : Nat} (hb : b < W.heap.size) : W'.frozen? ⟨b, off, none⟩ = W.frozen? ⟨b, off, none⟩ := by
  simp only [World.frozen?, h.old b hb]
theorem Kept.keptBut (h : Kept W W') (may : MemPlace → Prop) : W.keptBut W' may := by
  refine ⟨h.os, h.output, fun i hi => ?_⟩
  rw [h.old i hi]
  cases W.heap[i]? with
  | none => trivial
  | some o => cases o <;> simp
theorem trodAll_carry (h : Kept W W') {base : Nat} {spare : Nat → Bool} {held : Bool} : ∀ {ts : List TypeId} {vs : List Value} {ds : List (DataW H)} {ps : List MemPlace},
    DataW.TrodAll enc P W base spare held ts vs ds ps → (∀ p ∈ ps, p.block < W.heap.size) → DataW.TrodAll enc P W' base spare held ts vs ds ps
  | [], [], [], _, h0, _ => h0
  | _ :: _, _ :: _, _ :: _, _, ⟨p, q, ⟨n, h1⟩, h2, e⟩, hp => ⟨p, q, ⟨n, DataW.trod_carry n _ _ _ h1 fun x hx => h.sameAt (hp x (by rw [e]; exact List.mem_append_left _ hx))⟩,
      trodAll_carry h h2 (fun x hx => hp x (by rw [e]; exact List.mem_append_right _ hx)), e⟩

/-- a law that answers true and leaves the memory as it was -/
theorem law_post (hl : laidOutB P = true) (hm : mapsRowed P = true) (hz : ((List.range P.types.size).all fun t => match P.underlying t with | some (.slice e) => decide (0 < P.cellsOf e) | _ => true) = true)
    {f : Func} {s : ChangeSpec} {apart fresh handsOn again : Bool} {args : Array Value} {ds gs : List (DataW H)} {before : List MemPlace} {tb : TypeId} (hr : f.resultTypes = #[tb]) (htb : P.underlying tb = some .bool)
    (hts : ∀ t ∈ f.params.toList, t < P.types.size) (hv : s.vars = []) (hW : DataW.Whole enc P f.params.toList s.vars apart W args.toList ds gs before) (hfn : s.fn H ds = { results := [.lit (.bool true)], args := ds }) (hk : Kept W W') :
    s.post enc P f apart fresh handsOn again W args (.bool true) W' := by
  have hlt : ∀ p ∈ before, p.block < W.heap.size := fun p hp => hW.lt p hp
  have hW' := hW
  obtain ⟨p, q, hA, hV, rfl, hfz, hnd⟩ := hW
  rw [hv] at hV
  obtain ⟨rfl, rfl⟩ := ChangeShapes.trodVars_none hV
  simp only [List.append_nil] at *
  have hres : ∀ (b : Nat) (sp : Nat → Bool) (hd : Bool), DataW.TrodAll enc P W' b sp hd f.resultTypes.toList ((Value.bool true).resultList f.resultTypes.size) [.lit (.bool true)] [] := by
    intro b sp hd
    rw [hr]
    refine ⟨[], [], ⟨1, ?_⟩, rfl, rfl⟩
    rw [DataW.trod_step]
    simp [DataW.trodStep, htb]
    rfl
  have hargs : ∀ sp : Nat → Bool, (∀ x ∈ p, sp x.block = true) → DataW.TrodAll enc P W' 0 sp true f.params.toList args.toList ds p := fun sp hsp =>
    trodAll_carry hk (DataW.TrodAll.respare (kids_rows hl hm) (fun t e ht hu => slices_full_of P hz t e ht hu) hts hA hsp) hlt
  have hvars : ∀ sp : Nat → Bool, DataW.TrodVars enc P W' sp s.vars [] [] := fun sp => by rw [hv]; rfl
  have hold : ∀ x ∈ p, (fun b => decide (b < W.heap.size)) x.block = true := fun x hx => by simpa using hlt x hx
  refine ⟨ds, [], p, [], p, [], hW', ?_, ?_, ?_, World.keptBut_mono (fun x hx => ⟨hx, .inr (.inl hx)⟩) (hk.keptBut (· ∈ p)), fun _ => ⟨?_, _, [], p, ⟨[] ++ p, [], trodAll_append (hargs _ fun _ _ => rfl) (hres _ _ _), hvars _, by simp, ?_, fun ha => hnd ha⟩, fun x hx _ => hx⟩⟩
  · rw [List.append_nil, hfn]; exact hres _ _ _
  · rw [List.append_nil, hfn]; exact hargs _ hold
  · rw [List.append_nil, hfn]; exact hvars _
  · exact RowKit.ok_one hr rfl (RowKit.okWide_bool_mk htb _)
  · intro b off hb
    rw [hk.frozen (b := b) (hlt _ hb)]
    exact hfz b off hb

/-- a reading as plain data, by its type -/
def dec (P : Program) : Nat → TypeId → DataW H → Option (List V)
  | 0, _, _ => none
  | n + 1, t, d => match P.underlying t, d with
    | some .bool, .lit (.bool b) => some [.bool b]
    | some (.int k), .lit (.int _ m) => some [.int k m]
    | some .string, .lit (.string s) => some [.str s]
    | some (.slice e), .nil => some [.slice (P.cellsOf e) [] .any]
    | some (.slice e), .slice elems _ => (elems.mapM (dec P n e)).map fun es => [.slice (P.cellsOf e) es .any]
    | some (.struct fs), .agg parts => if parts.length = fs.size then ((fs.toList.zip parts).mapM fun p => dec P n p.1.type p.2).map List.flatten else none
    | _, _ => none
/-- types of such data, closed -/
def closedB (P : Program) (S : List TypeId) : Bool := S.all fun t => decide (t < P.types.size) && match P.underlying t with
  | some .bool | some (.int _) | some .string => P.cellsOf t == 1
  | some (.slice e) => S.contains e && decide (0 < P.cellsOf e) && P.cellsOf t == 1
  | some (.struct fs) => fs.toList.all fun f => S.contains f.type
  | _ => false

theorem one_le (d : DataW H) : 1 ≤ Rows.uptoBulk d := by
  cases d with
  | lit l => cases l <;> simp [Rows.uptoBulk]
  | _ => simp [Rows.uptoBulk]
theorem part_le {d : DataW H} : ∀ {l : List (DataW H)}, d ∈ l → Rows.uptoBulk d ≤ Rows.uptoBulkAll l
  | x :: r, h => by
    simp only [Rows.uptoBulkAll]
    rcases List.mem_cons.1 h with rfl | h
    · omega
    · have := part_le h; omega
theorem length_le : ∀ (l : List (DataW H)), l.length ≤ Rows.uptoBulkAll l
  | [] => by simp [Rows.uptoBulkAll]
  | x :: r => by have := one_le x; have := length_le r; simp only [Rows.uptoBulkAll, List.length_cons]; omega

theorem repC_of {I : Mem} {b : Nat} : ∀ {vs : List V} {cs : List Value} {o : Nat}, RepL I vs cs → (∀ j c, cs[j]? = some c → I.cell b (o + j) = some c) → RepC I b o vs
  | [], _, _, _, _ => by simp only [RepC]
  | v :: r, cs, o, h, k => by
    simp only [RepL] at h
    obtain ⟨c, s, rfl, hv, hr⟩ := h
    simp only [RepC]
    refine ⟨⟨c, by simpa using k 0 c rfl, hv⟩, repC_of hr fun j c' hj => ?_⟩
    have := k (j + 1) c' (by simpa using hj)
    rw [← this]; congr 1; omega
theorem cells_at {w : World} {a : Addr} {n : Nat} {cs : List Value} (h : w.cells? 0 a n = some cs) (hs : a.spot = none) : cs.length = n ∧ ∀ j c, cs[j]? = some c → w.cell? ⟨a.block, a.off + j, none⟩ = some c := by
  unfold World.cells? at h
  rw [if_pos (Nat.zero_le _)] at h
  have hl := mapM_some_length h
  simp only [List.length_range] at hl
  refine ⟨hl, fun j c hj => ?_⟩
  have hjl : j < cs.length := (List.getElem?_eq_some_iff.1 hj).1
  have := mapM_some_get h j j (List.getElem?_range (by omega))
  rw [hj] at this
  obtain ⟨b, o, sp⟩ := a
  simp only at hs
  subst hs
  rw [add_lit'] at this
  exact this
theorem cells_spot {w : World} {a : Addr} {n : Nat} {cs : List Value} (h : w.cells? 0 a n = some cs) (hn : 0 < n) : a.spot = none := by
  unfold World.cells? at h
  rw [if_pos (Nat.zero_le _)] at h
  have hl := mapM_some_length h
  simp only [List.length_range] at hl
  have := mapM_some_get h 0 0 (List.getElem?_range (by omega))
  have h0 : cs[0]? = some cs[0] := List.getElem?_eq_getElem (by omega)
  rw [h0] at this
  obtain ⟨b, o, sp⟩ := a
  cases sp with
  | none => rfl
  | some s =>
    simp only [Addr.add, if_true, World.cell?] at this
    split at this <;> simp at this

theorem repE_of {I : Mem} {b sz : Nat} : ∀ {es : List (List V)} {o : Nat}, (∀ (i : Nat) (e : List V), es[i]? = some e → e.length = sz ∧ RepC I b (o + i * sz) e) → RepE I sz b o es
  | [], _, _ => by simp only [RepE]
  | e :: r, o, h => by
    simp only [RepE]
    refine ⟨by simpa using h 0 e rfl, repE_of fun i e' he => ?_⟩
    have := h (i + 1) e' (by simpa using he)
    rw [Nat.add_mul, Nat.one_mul] at this
    rw [show o + sz + i * sz = o + (i * sz + sz) by omega]
    exact this
theorem addr_add_spot {a : Addr} {n : Nat} (h : (a.add n).spot = none) : a.spot = none ∨ n ≠ 0 := by
  by_cases hn : n = 0
  · subst hn; left; simpa [Addr.add] using h
  · exact .inr hn

theorem dec_sound {S : List TypeId} (K : Kids P (· < P.types.size)) (hS : closedB P S = true) (hB : B < lim) : ∀ (n : Nat) (t : TypeId) (cs : List Value) (x : DataW H × List MemPlace), t ∈ S → Rows.uptoBulk x.1 ≤ B →
    DataW.trod enc P W 0 (fun _ => true) true n t cs = some x → ∃ vs, dec P n t x.1 = some vs ∧ vs.length = P.cellsOf t ∧ RepL (allMem W) vs cs := by
  intro n
  induction n with
  | zero => intro t cs x _ _ h; simp [DataW.trod] at h
  | succ n ih =>
    intro t cs x ht hb h
    rw [DataW.trod_step] at h
    have hc := List.all_eq_true.1 hS t ht
    simp only [Bool.and_eq_true, decide_eq_true_eq] at hc
    obtain ⟨hts, hc⟩ := hc
    unfold DataW.trodStep at h
    unfold dec
    cases hu : P.underlying t with
    | none => rw [hu] at hc; cases hc
    | some u =>
      rw [hu] at hc h
      cases u <;> simp only at hc h ⊢ <;> try (cases hc; done)
      case bool =>
        split at h <;> simp_all
        subst h
        exact ⟨_, rfl, rfl, by simp only [RepL, Rep]; exact ⟨_, _, rfl, rfl, rfl⟩⟩
      case int k =>
        split at h <;> simp_all
        obtain ⟨⟨rfl, hw⟩, rfl⟩ := h
        exact ⟨_, rfl, rfl, by simp only [RepL, Rep]; exact ⟨_, _, rfl, rfl, rfl⟩⟩
      case string =>
        split at h <;> simp_all
        obtain ⟨h1, rfl⟩ := h
        refine ⟨_, rfl, rfl, ?_⟩
        simp only [RepL, Rep]
        refine ⟨_, _, rfl, ⟨by simp, ?_⟩, rfl⟩
        simp only [Rows.uptoBulk] at hb
        omega
      case slice e =>
        simp only [Bool.and_eq_true, decide_eq_true_eq, beq_iff_eq] at hc
        obtain ⟨⟨he, hpos⟩, hone⟩ := hc
        have he : e ∈ S := by simpa using he
        split at h <;> try (simp_all; done)
        · simp only [Option.some.injEq] at h
          subst h
          refine ⟨_, rfl, hone.symm, ?_⟩
          simp only [RepL]
          exact ⟨_, _, rfl, rep_nil hpos _ (.inr rfl), rfl⟩
        · rename_i _ _ e' a len cap heq
          cases heq
          split at h
          · rename_i hcond
            simp only [Option.map_eq_some_iff, Option.bind_eq_some_iff] at h
            obtain ⟨elems, h1, rest, h2, rfl⟩ := h
            have hlen : elems.length = len := by simpa using mapM_some_length h1
            simp only [Rows.uptoBulk] at hb
            have hl := length_le (elems.map (·.1))
            simp only [List.length_map] at hl
            have one : ∀ (i : Nat) (y : DataW H × List MemPlace), elems[i]? = some y → ∃ cs, W.cells? 0 (a.add (i * P.cellsOf e)) (P.cellsOf e) = some cs ∧ ∃ vs, dec P n e y.1 = some vs ∧ vs.length = P.cellsOf e ∧ RepL (allMem W) vs cs := by
              intro i y hy
              have hi : i < len := by rw [← hlen]; exact (List.getElem?_eq_some_iff.1 hy).1
              have := mapM_some_get h1 i i (List.getElem?_range hi)
              rw [hy] at this
              obtain ⟨cs', hcs, hy'⟩ := Option.bind_eq_some_iff.1 this
              have hmem : y.1 ∈ elems.map (·.1) := List.mem_map_of_mem (List.mem_of_getElem? hy)
              have := part_le hmem
              exact ⟨cs', hcs, ih e cs' y he (by omega) hy'⟩
            have hes : ∃ es : List (List V), (elems.map (·.1)).mapM (dec P n e) = some es ∧ es.length = len ∧ ∀ (i : Nat) (vs : List V), es[i]? = some vs → ∃ cs, W.cells? 0 (a.add (i * P.cellsOf e)) (P.cellsOf e) = some cs ∧ vs.length = P.cellsOf e ∧ RepL (allMem W) vs cs := by
              have gen : ∀ (l : List (DataW H × List MemPlace)) (k : Nat), (∀ (i : Nat) (y : DataW H × List MemPlace), l[i]? = some y → ∃ cs, W.cells? 0 (a.add ((k + i) * P.cellsOf e)) (P.cellsOf e) = some cs ∧ ∃ vs, dec P n e y.1 = some vs ∧ vs.length = P.cellsOf e ∧ RepL (allMem W) vs cs) →
                  ∃ es : List (List V), (l.map (·.1)).mapM (dec P n e) = some es ∧ es.length = l.length ∧ ∀ (i : Nat) (vs : List V), es[i]? = some vs → ∃ cs, W.cells? 0 (a.add ((k + i) * P.cellsOf e)) (P.cellsOf e) = some cs ∧ vs.length = P.cellsOf e ∧ RepL (allMem W) vs cs := by
                intro l
                induction l with
                | nil => intro k _; exact ⟨[], rfl, rfl, fun i vs h => by cases h⟩
                | cons y r ihl =>
                  intro k hl
                  obtain ⟨cs, g1, vs, g2, g3, g4⟩ := hl 0 y rfl
                  obtain ⟨es, k1, k2, k3⟩ := ihl (k + 1) (fun i y hy => by
                    have := hl (i + 1) y (by simpa using hy)
                    rw [show k + 1 + i = k + (i + 1) by omega]; exact this)
                  refine ⟨vs :: es, by simp [g2, k1], by simp [k2], fun i us hi => ?_⟩
                  cases i with
                  | zero =>
                    simp only [List.getElem?_cons_zero, Option.some.injEq] at hi
                    subst hi
                    exact ⟨cs, g1, g3, g4⟩
                  | succ i =>
                    have := k3 i us (by simpa using hi)
                    rw [show k + (i + 1) = k + 1 + i by omega]; exact this
              obtain ⟨es, k1, k2, k3⟩ := gen elems 0 (fun i y hy => by rw [Nat.zero_add]; exact one i y hy)
              exact ⟨es, k1, k2.trans hlen, fun i vs hi => by have := k3 i vs hi; rwa [Nat.zero_add] at this⟩
            obtain ⟨es, k1, k2, k3⟩ := hes
            refine ⟨[.slice (P.cellsOf e) es .any], by
              show Option.map _ (List.mapM (dec P n e) (elems.map (·.1))) = _
              rw [k1]; rfl, hone.symm, ?_⟩
            simp only [RepL, Rep]
            refine ⟨_, [], rfl, ⟨some a, cap, by rw [k2], by omega, by omega, hpos, trivial, ?_⟩, rfl⟩
            have hspot : cap = 0 ∨ a.spot = none := by
              by_cases h0 : cap = 0
              · exact .inl h0
              · right
                by_cases hl0 : len = 0
                · simp only [if_true] at h2
                  have hrl : rest.length = cap - len := by simpa using mapM_some_length h2
                  have := mapM_some_get h2 0 0 (List.getElem?_range (by omega))
                  rw [List.getElem?_eq_getElem (by omega)] at this
                  obtain ⟨cs', hcs, _⟩ := Option.bind_eq_some_iff.1 this
                  have hsp := cells_spot hcs hpos
                  rw [hl0] at hsp
                  simpa [Addr.add] using hsp
                · obtain ⟨cs, hcs, _⟩ := one 0 elems[0] (List.getElem?_eq_getElem (by omega))
                  have hsp := cells_spot hcs hpos
                  simpa [Addr.add] using hsp
            refine ⟨hspot, repE_of fun i vs hi => ?_⟩
            obtain ⟨cs, g1, g2, g3⟩ := k3 i vs hi
            refine ⟨g2, repC_of g3 fun j c hj => ?_⟩
            have hi' : i < es.length := (List.getElem?_eq_some_iff.1 hi).1
            obtain rfl | hne := Nat.eq_zero_or_pos cap
            · omega
            · obtain ⟨b, o, sp⟩ := a
              have hsp : sp = none := hspot.resolve_left (by omega)
              subst hsp
              rw [add_lit'] at g1
              exact (cells_at g1 rfl).2 j c hj
          · cases h
      case struct fs =>
        split at h
        · rename_i hlen
          simp only [Option.map_eq_some_iff] at h
          obtain ⟨xs, h1, rfl⟩ := h
          simp only [Rows.uptoBulk] at hb
          have hxl : xs.length = fs.size := by have := mapM_some_length h1; simpa using this
          obtain ⟨hT, hsum, hoff⟩ := K.struct hts hu
          have hct : ∀ f ∈ fs.toList, f.type ∈ S := fun f hf => by
            have := List.all_eq_true.1 hc f hf
            simpa using this
          have gen : ∀ (l : List Field) (ys : List (DataW H × List MemPlace)) (rs : List Value), l.length = ys.length → (∀ f ∈ l, f.type ∈ S) → (∀ y ∈ ys, Rows.uptoBulk y.1 ≤ B) →
              rs.length = (l.map fun f => P.cellsOf f.type).sum →
              (∀ (j : Nat) (f : Field) (y : DataW H × List MemPlace), l[j]? = some f → ys[j]? = some y → DataW.trod enc P W 0 (fun _ => true) true n f.type ((rs.drop ((l.take j).map fun f => P.cellsOf f.type).sum).take (P.cellsOf f.type)) = some y) →
              ∃ vs, (l.zip (ys.map (·.1))).mapM (fun p => dec P n p.1.type p.2) = some vs ∧ vs.flatten.length = (l.map fun f => P.cellsOf f.type).sum ∧ RepL (allMem W) vs.flatten rs := by
            intro l
            induction l with
            | nil =>
              intro ys rs h0 _ _ hr _
              refine ⟨[], by simp, rfl, ?_⟩
              simp at hr
              subst hr
              simp [RepL]
            | cons f r ihl =>
              intro ys rs h0 hS' hB' hr hj
              cases ys with
              | nil => simp at h0
              | cons y ys =>
                simp only [List.map_cons, List.sum_cons] at hr
                obtain ⟨v, g1, g2, g3⟩ := ih f.type _ y (hS' f List.mem_cons_self) (hB' y List.mem_cons_self) (hj 0 f y rfl rfl)
                simp only [List.take_zero, List.map_nil, List.sum_nil, List.drop_zero] at g3
                obtain ⟨vs, k1, k2, k3⟩ := ihl ys (rs.drop (P.cellsOf f.type)) (by simpa using h0) (fun f' hf => hS' f' (List.mem_cons_of_mem _ hf)) (fun y' hy => hB' y' (List.mem_cons_of_mem _ hy)) (by rw [List.length_drop, hr]; omega) (fun j f' y' hf hy => by
                  have := hj (j + 1) f' y' (by simpa using hf) (by simpa using hy)
                  simp only [List.take_succ_cons, List.map_cons, List.sum_cons] at this
                  rw [List.drop_drop]
                  exact this)
                refine ⟨v :: vs, by simp [g1, k1], by simp [g2, k2], ?_⟩
                have := RepL.append g3 k3
                rw [List.take_append_drop] at this
                simpa using this
          obtain ⟨vs, g1, g2, g3⟩ := gen fs.toList xs cs (by simpa using hxl.symm) hct (fun y hy => by have := part_le (List.mem_map_of_mem (f := (·.1)) hy); omega) (by rw [hlen]; exact hsum) (fun j f y hf hy => by
            have := mapM_some_get h1 j f hf
            rw [hy] at this
            rw [hoff j f hf] at this
            exact this)
          refine ⟨vs.flatten, ?_, by rw [g2, hsum], g3⟩
          show (if (xs.map (·.1)).length = fs.size then ((fs.toList.zip (xs.map (·.1))).mapM fun p => dec P n p.1.type p.2).map List.flatten else none) = _
          rw [if_pos (by simpa using hxl), g1]; rfl
        · cases h
/-- a struct that is handed in lies in cells -/
theorem agg_of_ok {base : Nat} {t : TypeId} {v : Value} {fs : Array Field} (hu : P.underlying t = some (.struct fs)) (h : Value.okWide P W .any base t v) : ∃ cs, v = .agg cs := by
  unfold Value.okWide at h
  rw [hu] at h
  obtain ⟨cs, rfl, _⟩ := h
  exact ⟨cs, rfl⟩
theorem rep_struct {I : Mem} {vs : List V} {v : Value} (hv : ∃ cs, v = .agg cs) (h : RepL I vs v.cells.toList) : Rep I (.agg vs) v := by
  obtain ⟨cs, rfl⟩ := hv
  simp only [Rep]
  exact ⟨cs.toList, by simp, h⟩
/-- one cell that is handed in -/
theorem rep_one {I : Mem} {u : V} {v : Value} (hv : v.cells = #[v]) (h : RepL I [u] v.cells.toList) : Rep I u v := by
  rw [hv] at h
  simp only [RepL] at h
  obtain ⟨c, s, e, h1, _⟩ := h
  cases e
  exact h1
theorem cell_of_ok {base : Nat} {t : TypeId} {v : Value} (hu : P.underlying t = some .string ∨ (∃ e, P.underlying t = some (.slice e)) ∨ (∃ k, P.underlying t = some (.int k)) ∨ P.underlying t = some .bool) (h : Value.okWide P W .any base t v) : v.cells = #[v] := by
  cases v with
  | agg cs =>
    unfold Value.okWide at h
    rcases hu with hu | ⟨e, hu⟩ | ⟨k, hu⟩ | hu <;> rw [hu] at h <;> simp [Cell.okWide, Cell.ok, hu] at h
  | _ => rfl
theorem rep_str_one {I : Mem} {u : V} {base : Nat} {t : TypeId} {v : Value} (hu : P.underlying t = some .string) (hv : Value.okWide P W .any base t v) (h : RepL I [u] v.cells.toList) : Rep I u v := rep_one (cell_of_ok (.inl hu) hv) h
theorem rep_slice_one {I : Mem} {u : V} {base : Nat} {t e : TypeId} {v : Value} (hu : P.underlying t = some (.slice e)) (hv : Value.okWide P W .any base t v) (h : RepL I [u] v.cells.toList) : Rep I u v := rep_one (cell_of_ok (.inr (.inl ⟨e, hu⟩)) hv) h
theorem rep_int_one {I : Mem} {u : V} {base : Nat} {t : TypeId} {k : IntKind} {v : Value} (hu : P.underlying t = some (.int k)) (hv : Value.okWide P W .any base t v) (h : RepL I [u] v.cells.toList) : Rep I u v := rep_one (cell_of_ok (.inr (.inr (.inl ⟨k, hu⟩))) hv) h
end
end Go.Proofs.Ytngbihfihdheoaa
