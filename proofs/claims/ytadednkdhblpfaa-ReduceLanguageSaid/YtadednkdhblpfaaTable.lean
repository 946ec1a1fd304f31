/- Tables of booleans in memory; emendateref19.table, walked. -/
import Derived.Test.YtadednkdhblpfaaRedMem
import Derived.BigRegion
import Derived.Deep.CutRange
import Derived.Deep.RegionHeld3
namespace Go.Proofs.Ytadednkdhblpfaa.Tb
open Go.RowKit Go.Proofs.YtadednkdhblpfaaW.PrintWords Go.Proofs.YtadednkdhblpfaaW.PrintLast Go.Proofs.YtadednkdhblpfaaW.PrintMore Go.Proofs.Ytadednkdhblpfaa.B Go.Proofs.Ytadednkdhblpfaa.Val Go.Proofs.Ytadednkdhblpfaa.Ana Go.Proofs.Ytadednkdhblpfaa.Red
set_option linter.unusedVariables false
set_option linter.unusedSimpArgs false

theorem info_bs : (Try.prog.info? 36).map (fun i => (i.zero, i.size, i.bytes)) = some (some (.slice none 0 0), 1, 24) := by kernel_rfl
theorem info_bss : (Try.prog.info? 37).map (fun i => (i.zero, i.size, i.bytes)) = some (some (.slice none 0 0), 1, 24) := by kernel_rfl

/-- the blocks of a table that was made at B: nonterminal a's middle row, its inner row q -/
def mbk (B L a : Nat) : Nat := B + 1 + a * (L + 2)
def ibk (B L a q : Nat) : Nat := B + 1 + a * (L + 2) + 1 + q
theorem mul_at {M a b r s : Nat} (hr : r < M) (hs : s < M) (h : a * M + r = b * M + s) : a = b ∧ r = s := by
  have key : ∀ {a b r s : Nat}, s < M → a * M + r = b * M + s → ¬ b < a := by
    intro a b r s hs h hab
    obtain ⟨d, rfl⟩ : ∃ d, a = b + 1 + d := ⟨a - b - 1, by omega⟩
    rw [Nat.add_mul, Nat.add_mul] at h
    omega
  have h1 := key hs h
  have h2 := key hr h.symm
  obtain rfl : a = b := by omega
  exact ⟨rfl, by omega⟩
theorem ibk_inj {B L a q b r : Nat} (hq : q ≤ L) (hr : r ≤ L) (h : ibk B L a q = ibk B L b r) : a = b ∧ q = r := by
  unfold ibk at h
  have := mul_at (M := L + 2) (a := a) (b := b) (r := 1 + q) (s := 1 + r) (by omega) (by omega) (by omega)
  omega
theorem ibk_mbk {B L a q b : Nat} (hq : q ≤ L) : ibk B L a q ≠ mbk B L b := by
  intro h
  unfold ibk mbk at h
  have := mul_at (M := L + 2) (a := a) (b := b) (r := 1 + q) (s := 0) (by omega) (by omega) (by omega)
  omega
theorem mbk_inj {B L a b : Nat} (h : mbk B L a = mbk B L b) : a = b := by
  unfold mbk at h
  exact (mul_at (M := L + 2) (a := a) (b := b) (r := 0) (s := 0) (by omega) (by omega) (by omega)).1

def rowO (n B L p : Nat) : Array Value := ((List.range n).map (fun a => if a < p then Value.slice (some ⟨mbk B L a, 0, none⟩) (L + 1) (L + 1) else .slice none 0 0)).toArray
def rowM (B L a : Nat) (D : Nat → Bool) : Array Value := ((List.range (L + 1)).map (fun q => if D q then Value.slice (some ⟨ibk B L a q, 0, none⟩) (L + 1) (L + 1) else .slice none 0 0)).toArray
def rowI (L : Nat) (f : Nat → Bool) : Array Value := ((List.range (L + 1)).map (fun j => Value.bool (f j))).toArray
theorem rowO_get {n B L p a : Nat} (ha : a < n) (hp : a < p) : (rowO n B L p)[a]? = some (.slice (some ⟨mbk B L a, 0, none⟩) (L + 1) (L + 1)) := by simp [rowO, ha, hp]
theorem rowM_get {B L a q : Nat} {D : Nat → Bool} (hq : q ≤ L) (hD : D q = true) : (rowM B L a D)[q]? = some (.slice (some ⟨ibk B L a q, 0, none⟩) (L + 1) (L + 1)) := by simp [rowM, hD, show q < L + 1 by omega]
theorem rowI_get {L j : Nat} {f : Nat → Bool} (hj : j ≤ L) : (rowI L f)[j]? = some (.bool (f j)) := by simp [rowI, show j < L + 1 by omega]
theorem rowO_set {n B L p : Nat} (hp : p < n) : (rowO n B L p).setIfInBounds p (.slice (some ⟨mbk B L p, 0, none⟩) (L + 1) (L + 1)) = rowO n B L (p + 1) := by
  unfold rowO
  rw [List.setIfInBounds_toArray]
  congr 1
  apply List.ext_getElem (by simp)
  intro i h1 h2
  simp only [List.getElem_set, List.getElem_map, List.getElem_range]
  by_cases e : p = i
  · subst e; simp
  · rw [if_neg e]
    by_cases h : i < p
    · rw [if_pos h, if_pos (by omega)]
    · rw [if_neg h, if_neg (by omega)]
theorem rowM_set {B L a q : Nat} {D D' : Nat → Bool} (hq : q ≤ L) (h : ∀ r, D' r = (D r || decide (r = q))) : (rowM B L a D).setIfInBounds q (.slice (some ⟨ibk B L a q, 0, none⟩) (L + 1) (L + 1)) = rowM B L a D' := by
  unfold rowM
  rw [List.setIfInBounds_toArray]
  congr 1
  apply List.ext_getElem (by simp)
  intro i h1 h2
  simp only [List.getElem_set, List.getElem_map, List.getElem_range]
  by_cases e : q = i
  · subst e; simp [h]
  · rw [if_neg e, h, decide_eq_false (fun e' => e e'.symm), Bool.or_false]
theorem rowI_set {L j : Nat} {f f' : Nat → Bool} {b : Bool} (h : ∀ r, r ≤ L → f' r = if r = j then b else f r) : (rowI L f).setIfInBounds j (.bool b) = rowI L f' := by
  unfold rowI
  rw [List.setIfInBounds_toArray]
  congr 1
  apply List.ext_getElem (by simp)
  intro i h1 h2
  simp only [List.length_map, List.length_range] at h2
  simp only [List.getElem_set, List.getElem_map, List.getElem_range]
  rw [h i (by omega)]
  by_cases e : j = i
  · subst e; simp
  · rw [if_neg e, if_neg (fun e' => e e'.symm)]
theorem made_o (n B L : Nat) : madeCells #[.slice none 0 0] n = rowO n B L 0 := by
  apply Array.ext
  · simp [madeCells, rowO]
  · intro i h1 h2
    simp [madeCells, rowO, Nat.mod_one]
theorem made_m (B L a : Nat) {D : Nat → Bool} (hD : ∀ q, q ≤ L → D q = false) : madeCells #[.slice none 0 0] (L + 1) = rowM B L a D := by
  apply Array.ext
  · simp [madeCells, rowM]
  · intro i h1 h2
    have : i ≤ L := by simp [rowM] at h2; omega
    simp [madeCells, rowM, Nat.mod_one, hD i this]
theorem made_i (L : Nat) : madeCells #[.bool false] (L + 1) = rowI L (fun _ => false) := by
  apply Array.ext
  · simp [madeCells, rowI]
  · intro i h1 h2
    simp [madeCells, rowI, Nat.mod_one]

/-- a table of n times (L + 1) times (L + 1) booleans, made at block B; of the middle rows the first p are there, of the inner rows those that D tells -/
structure TabP (w : World) (B n L p : Nat) (D : Nat → Nat → Bool) (T : Int → Nat → Nat → Bool) : Prop where
  o : w.heap[B]? = some (.cells (rowO n B L p) 37 (0, 0))
  m : ∀ a, a < p → w.heap[mbk B L a]? = some (.cells (rowM B L a (D a)) 36 (0, 0))
  i : ∀ a q, a < p → q ≤ L → D a q = true → w.heap[ibk B L a q]? = some (.cells (rowI L (T a q)) 4 (0, 0))
def Tab (w : World) (B n L : Nat) (T : Int → Nat → Nat → Bool) : Prop := TabP w B n L n (fun _ _ => true) T
section
variable {w w1 : World} {B n L p : Nat} {D : Nat → Nat → Bool} {T : Int → Nat → Nat → Bool}
theorem TabP.below (h : TabP w B n L p D T) (k : Below w.heap.size w w1) : TabP w1 B n L p D T :=
  ⟨blk_below h.o k, fun a ha => blk_below (h.m a ha) k, fun a q ha hq hD => blk_below (h.i a q ha hq hD) k⟩
theorem Tab.below (h : Tab w B n L T) (k : Below w.heap.size w w1) : Tab w1 B n L T := TabP.below h k
theorem Tab.at (h : Tab w B n L T) {a q j : Nat} (ha : a < n) (hq : q ≤ L) (hj : j ≤ L) :
    w.cell? ⟨B, a, none⟩ = some (.slice (some ⟨mbk B L a, 0, none⟩) (L + 1) (L + 1)) ∧ w.cell? ⟨mbk B L a, q, none⟩ = some (.slice (some ⟨ibk B L a q, 0, none⟩) (L + 1) (L + 1)) ∧
    w.cell? ⟨ibk B L a q, j, none⟩ = some (.bool (T a q j)) ∧ w.frozen? ⟨ibk B L a q, j, none⟩ = false :=
  ⟨(blk_cell h.o a).trans (rowO_get ha ha), (blk_cell (h.m a ha) q).trans (rowM_get hq rfl), (blk_cell (h.i a q ha hq rfl) j).trans (rowI_get hj), blk_frozen (h.i a q ha hq rfl) j⟩
/-- an entry is written -/
theorem Tab.put (h : Tab w B n L T) {a q j : Nat} {b : Bool} (ha : a < n) (hq : q ≤ L) {T' : Int → Nat → Nat → Bool}
    (hT : ∀ c r k : Nat, c < n → r ≤ L → k ≤ L → T' c r k = if c = a ∧ r = q ∧ k = j then b else T c r k) : Tab (w.setCell ⟨ibk B L a q, j, none⟩ (.bool b)) B n L T' := by
  have far : ∀ {c : Nat} {o : Obj}, c ≠ ibk B L a q → w.heap[c]? = some o → (w.setCell ⟨ibk B L a q, j, none⟩ (.bool b)).heap[c]? = some o := fun hne ho => (Below.heap_setCell w _ _ _ hne).trans ho
  refine ⟨far (by unfold ibk; omega) h.o, fun c hc => far (fun e => ibk_mbk hq e.symm) (h.m c hc), fun c r hc hr _ => ?_⟩
  by_cases e : c = a ∧ r = q
  · obtain ⟨rfl, rfl⟩ := e
    have := blk_set (h.i c r hc hr rfl) j (.bool b)
    rwa [rowI_set (f' := T' c r) (fun k hk => by rw [hT c r k hc hr hk]; simp)] at this
  · have e1 : rowI L (T' c r) = rowI L (T c r) := by
      unfold rowI
      congr 1
      apply List.map_congr_left
      intro k hk
      simp at hk
      rw [hT c r k hc hr (by omega), if_neg (by rintro ⟨e1, e2, _⟩; exact e ⟨e1, e2⟩)]
    rw [e1]
    refine far (fun e2 => e ?_) (h.i c r hc hr rfl)
    obtain ⟨e3, e4⟩ := ibk_inj hr hq e2
    exact ⟨e3, e4⟩
end
end Go.Proofs.Ytadednkdhblpfaa.Tb
