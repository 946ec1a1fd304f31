/- What Reduce computes, as plain functions on lists. -/
import Derived.Test.YtadednkdhblpfaaRed
namespace Go.Proofs.Ytadednkdhblpfaa.Red
open Go.RowKit Go.Proofs.YtadednkdhblpfaaW.PrintWords Go.Proofs.YtadednkdhblpfaaW.PrintLast Go.Proofs.YtadednkdhblpfaaW.PrintMore Go.Proofs.Ytadednkdhblpfaa.B Go.Proofs.Ytadednkdhblpfaa.Ana Go.Proofs.Ytadednkdhblpfaa.Val
set_option linter.unusedVariables false
set_option linter.unusedSimpArgs false

open Classical in
/-- which nonterminals are productive -/
noncomputable def prL (g : Gr) : List Bool := (List.range g.nonterms.length).map fun k : Nat => decide (HP g.rules true (k : Int))
open Classical in
/-- which nonterminals are useful -/
noncomputable def useL (g : Gr) : List Bool := (List.range g.nonterms.length).map fun k : Nat => decide (UP g (prL g) (k : Int))

theorem eq_of_rd {n : Nat} {a b : List Bool} (ha : a.length = n) (hb : b.length = n) (h : ∀ k : Nat, k < n → (rdOf false a k = true ↔ rdOf false b k = true)) : a = b := by
  apply List.ext_getElem (by omega)
  intro i h1 h2
  have := h i (by omega)
  rw [rdOf_nat _ _ _ h1, rdOf_nat _ _ _ h2] at this
  cases hx : a[i] <;> cases hy : b[i] <;> simp_all
theorem rd_map_range (n : Nat) (f : Nat → Bool) (k : Nat) (hk : k < n) : rdOf false ((List.range n).map f) k = f k := by
  simp [rdOf, List.getD_eq_getElem?_getD, hk]
open Classical in
theorem HeadsOut.eq {g : Gr} {out : List Bool} (h : HeadsOut g.rules g.nonterms.length true out) : out = prL g :=
  eq_of_rd h.len (by simp [prL]) (fun k hk => by rw [h.iff k hk, prL, rd_map_range _ _ k hk]; exact ⟨fun h => decide_eq_true h, fun h => of_decide_eq_true h⟩)
open Classical in
theorem UsefulOut.eq {g : Gr} {out : List Bool} (h : UsefulOut g (prL g) out) : out = useL g :=
  eq_of_rd h.len (by simp [useL]) (fun k hk => by rw [h.iff k hk, useL, rd_map_range _ _ k hk]; exact ⟨fun h => decide_eq_true h, fun h => of_decide_eq_true h⟩)

/-- the useful nonterminals, in order -/
def useIdx (use : List Bool) (n : Nat) : List Nat := (List.range n).filter (fun k => rdOf false use (k : Int))
/-- the new number of an old nonterminal -/
def numIn (l : List Nat) (i : Int) : Int := if i.toNat ∈ l ∧ 0 ≤ i then (l.idxOf i.toNat : Int) else 0
def renSym (l : List Nat) (x : Int) : Int := if x < 0 then -1 - numIn l (-1 - x) else x
def renRul (l : List Nat) (r : Rul) : Rul := ⟨numIn l r.head, r.body.map (renSym l), r.price⟩
/-- a rule is kept -/
def keeps (pr use : List Bool) (r : Rul) : Bool := rdOf false use r.head && worksB pr r.body
/-- the indices of the kept rules among the first n -/
def keptIdx (pr use : List Bool) (rs : List Rul) (n : Nat) : List Nat := (List.range n).filter (fun j => keeps pr use (rdOf Rul.zero rs (j : Int)))

/-- the reduced grammar, out of the lists of productive and useful nonterminals -/
def redG (g : Gr) (pr use : List Bool) : Gr :=
  ⟨g.terms, (useIdx use g.nonterms.length).map (fun i : Nat => rdOf ByteArray.empty g.nonterms (i : Int)), numIn (useIdx use g.nonterms.length) g.start,
    (keptIdx pr use g.rules g.rules.length).map (fun j : Nat => renRul (useIdx use g.nonterms.length) (rdOf Rul.zero g.rules (j : Int)))⟩
/-- what Reduce returns: the grammar, the indices, the error -/
noncomputable def reduceR (g : Gr) : Gr × List Int × Int :=
  if validB g = false then (Gr.zero, [], 1) else if rdOf false (prL g) g.start = false then (Gr.zero, [], 10)
  else (redG g (prL g) (useL g), (keptIdx (prL g) (useL g) g.rules g.rules.length).map (fun j : Nat => (j : Int)), 0)

theorem useIdx_succ (use : List Bool) (n : Nat) : useIdx use (n + 1) = useIdx use n ++ (if rdOf false use (n : Int) then [n] else []) := by
  unfold useIdx
  rw [List.range_succ, List.filter_append]
  congr 1
  by_cases h : rdOf false use (n : Int) = true <;> simp [h]
theorem keptIdx_succ (pr use : List Bool) (rs : List Rul) (n : Nat) : keptIdx pr use rs (n + 1) = keptIdx pr use rs n ++ (if keeps pr use (rdOf Rul.zero rs (n : Int)) then [n] else []) := by
  unfold keptIdx
  rw [List.range_succ, List.filter_append]
  congr 1
  by_cases h : keeps pr use (rdOf Rul.zero rs (n : Int)) = true <;> simp [h]
theorem useIdx_le (use : List Bool) (n : Nat) : (useIdx use n).length ≤ n := by
  unfold useIdx; exact Nat.le_trans (List.length_filter_le _ _) (by simp)
theorem keptIdx_le (pr use : List Bool) (rs : List Rul) (n : Nat) : (keptIdx pr use rs n).length ≤ n := by
  unfold keptIdx; exact Nat.le_trans (List.length_filter_le _ _) (by simp)
theorem useIdx_lt {use : List Bool} {n i : Nat} (h : i ∈ useIdx use n) : i < n := by
  unfold useIdx at h; simpa using (List.mem_filter.1 h).1
theorem not_mem_useIdx (use : List Bool) (n : Nat) : n ∉ useIdx use n := fun h => by have := useIdx_lt h; omega

/-! the map of numbers, as a datum -/
def ik (i : Int) : Lit := .int .i64 i
/-- a map that holds the new numbers -/
structure NumView (D : DataW Unit) (l : List Nat) : Prop where
  map : Maps.IsMap D
  at_ : ∀ i : Int, D.atKey (ik i) (.lit (.int .i64 0)) = .lit (.int .i64 (numIn l i))
theorem numView_nil : NumView (.map []) [] := ⟨Maps.isMap_empty, fun i => by simp [numIn, DataW.atKey]⟩
theorem numIn_snoc (l : List Nat) (i : Nat) (h : i ∉ l) (j : Int) : numIn (l ++ [i]) j = if j = (i : Int) then (l.length : Int) else numIn l j := by
  unfold numIn
  by_cases e : j = (i : Int)
  · subst e
    rw [if_pos ⟨by simp, by omega⟩, if_pos rfl, Int.toNat_natCast, List.idxOf_append, if_neg h]
    simp
  · rw [if_neg e]
    by_cases hj : 0 ≤ j
    · have hne : j.toNat ≠ i := by omega
      by_cases hm : j.toNat ∈ l
      · rw [if_pos ⟨by simp [hm], hj⟩, if_pos ⟨hm, hj⟩, List.idxOf_append, if_pos hm]
      · rw [if_neg (by simp [hm, hne]), if_neg (by simp [hm])]
    · rw [if_neg (by simp [hj]), if_neg (by simp [hj])]
theorem numView_put {D : DataW Unit} {l : List Nat} (h : NumView D l) (i : Nat) (hi : i ∉ l) : NumView (D.put (ik (i : Int)) (.lit (.int .i64 (l.length : Int)))) (l ++ [i]) := by
  refine ⟨h.map.put _ _, fun j => ?_⟩
  rw [numIn_snoc l i hi j]
  by_cases e : j = (i : Int)
  · subst e; rw [if_pos rfl]; exact Maps.atKey_put_same h.map (k := ik (i : Int)) (show WideAt.IsKeyLit (.int .i64 (i : Int)) from trivial) _ _
  · rw [if_neg e, ← h.at_ j]
    exact Maps.atKey_put_other (fun he => e (by unfold ik at he; injection he)) _ _
theorem numIn_bd (l : List Nat) (i : Int) : 0 ≤ numIn l i ∧ numIn l i ≤ l.length := by
  unfold numIn
  split
  · rename_i h
    have := List.idxOf_lt_length_of_mem h.1
    omega
  · omega
end Go.Proofs.Ytadednkdhblpfaa.Red
