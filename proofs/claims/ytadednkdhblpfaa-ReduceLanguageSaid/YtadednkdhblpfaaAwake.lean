/- emendatelaw22.awake, walked: the document's example holds. -/
import Derived.Test.YtadednkdhblpfaaRef22a
import Derived.Test.YtadednkdhblpfaaReduce
import Derived.Test.YtadednkdhblpfaaSample
namespace Go.Proofs.Ytadednkdhblpfaa.Law
open Go.RowKit Go.Proofs.YtadednkdhblpfaaW.PrintWords Go.Proofs.YtadednkdhblpfaaW.PrintLast Go.Proofs.YtadednkdhblpfaaW.PrintMore Go.Proofs.Ytadednkdhblpfaa.B Go.Proofs.Ytadednkdhblpfaa.Val Go.Proofs.Ytadednkdhblpfaa.Ana Go.Proofs.Ytadednkdhblpfaa.Red Go.Proofs.Ytadednkdhblpfaa.Ref
set_option linter.unusedVariables false
set_option linter.unusedSimpArgs false

/-- objects, made one behind the other -/
def putAll (w : World) : List Obj → World
  | [] => w
  | o :: r => putAll (w.alloc o) r
theorem putAll_below (w : World) (os : List Obj) : Below w.heap.size w (putAll w os) := by
  induction os generalizing w with
  | nil => exact Below.refl _ _
  | cons o r ih => exact ((Below.refl _ _).alloc (Nat.le_refl _) o).trans ((ih (w.alloc o)).mono (by simp))
theorem putAll_get (w : World) (os : List Obj) (i : Nat) (o : Obj) (h : os[i]? = some o) : (putAll w os).heap[w.heap.size + i]? = some o := by
  induction os generalizing w i with
  | nil => simp at h
  | cons p r ih =>
    cases i with
    | zero =>
      simp at h; subst h
      exact blk_below (blk_new w p) (putAll_below (w.alloc p) r)
    | succ i =>
      have := ih (w.alloc p) i (by simpa using h)
      rw [show (w.alloc p).heap.size = w.heap.size + 1 by simp] at this
      rw [show w.heap.size + (i + 1) = w.heap.size + 1 + i by omega]
      exact this

theorem C_box {α : Type} (d : Kd α) {w : World} {b : Nat} {cs : Array Value} {ty : Nat} {xs : List α} (h : w.heap[b]? = some (.cells cs ty (0, 0))) (hm : xs.length ≤ 9223372036854775807)
    (hK : ∀ j p, xs[j]? = some p → ∃ c, c.length = d.sz ∧ d.K w p c ∧ ∀ i u, c[i]? = some u → cs[j * d.sz + i]? = some u) : d.C w (some ⟨b, 0, none⟩) xs.length xs :=
  ⟨rfl, hm, fun _ => ⟨_, rfl, fun j p hj => by
    obtain ⟨c, h1, h2, h3⟩ := hK j p hj
    refine ⟨c, h1, h2, fun i u hu => ?_⟩
    rw [add_plain]
    exact (blk_cell h _).trans (h3 i u hu)⟩⟩
theorem C_strs {w : World} {b ty : Nat} {xs : List ByteArray} (h : w.heap[b]? = some (.cells (xs.map Value.string).toArray ty (0, 0))) (hm : xs.length ≤ 9223372036854775807) : Kd.string.C w (some ⟨b, 0, none⟩) xs.length xs :=
  C_box Kd.string h hm (fun j p hj => ⟨[.string p], rfl, rfl, fun i u hu => by
    have hs : Kd.sz Kd.string = 1 := rfl
    rcases i with _ | i
    · simp at hu; subst hu; rw [hs]; simp [hj]
    · simp at hu⟩)
theorem C_intsB {w : World} {b ty : Nat} {xs : List Int} (h : w.heap[b]? = some (.cells (xs.map (Value.int .i64)).toArray ty (0, 0))) (hm : xs.length ≤ 9223372036854775807) : (Kd.int .i64).C w (some ⟨b, 0, none⟩) xs.length xs :=
  C_box (Kd.int .i64) h hm (fun j p hj => ⟨[.int .i64 p], rfl, rfl, fun i u hu => by
    have hs : Kd.sz (Kd.int .i64) = 1 := rfl
    rcases i with _ | i
    · simp at hu; subst hu; rw [hs]; simp [hj]
    · simp at hu⟩)

theorem sizeA : ∀ s ∈ tA, s.size ≤ maxLen := by decide +kernel
theorem sizeN : ∀ s ∈ nA, s.size ≤ maxLen := by decide +kernel
theorem sizeW : ∀ s ∈ nW, s.size ≤ maxLen := by decide +kernel

/-- the example's five rules in memory -/
theorem rowA {w : World} {b a0 a1 a2 a3 a4 ty ti : Nat}
    (h0 : w.heap[a0]? = some (.cells #[.int .i64 0, .int .i64 (-2)] ti (0, 0))) (h1 : w.heap[a1]? = some (.cells #[.int .i64 (-3)] ti (0, 0))) (h2 : w.heap[a2]? = some (.cells #[.int .i64 1] ti (0, 0)))
    (h3 : w.heap[a3]? = some (.cells #[.int .i64 (-3), .int .i64 2] ti (0, 0))) (h4 : w.heap[a4]? = some (.cells #[.int .i64 3] ti (0, 0)))
    (h : w.heap[b]? = some (.cells #[.int .i64 0, .slice (some ⟨a0, 0, none⟩) 2 2, .int .i64 0, .int .i64 0, .slice (some ⟨a1, 0, none⟩) 1 1, .int .i64 0, .int .i64 1, .slice (some ⟨a2, 0, none⟩) 1 1, .int .i64 7,
      .int .i64 2, .slice (some ⟨a3, 0, none⟩) 2 2, .int .i64 0, .int .i64 3, .slice (some ⟨a4, 0, none⟩) 1 1, .int .i64 0] ty (0, 0))) : kRul.C w (some ⟨b, 0, none⟩) 5 rA := by
  refine C_box (xs := rA) kRul h (by decide) (fun j p hj => ?_)
  have key : ∀ (q : Nat) (c0 c1 c2 : Value), (#[Value.int .i64 0, .slice (some ⟨a0, 0, none⟩) 2 2, .int .i64 0, .int .i64 0, .slice (some ⟨a1, 0, none⟩) 1 1, .int .i64 0, .int .i64 1, .slice (some ⟨a2, 0, none⟩) 1 1, .int .i64 7,
      .int .i64 2, .slice (some ⟨a3, 0, none⟩) 2 2, .int .i64 0, .int .i64 3, .slice (some ⟨a4, 0, none⟩) 1 1, .int .i64 0] : Array Value)[q]? = some c0 → (#[Value.int .i64 0, .slice (some ⟨a0, 0, none⟩) 2 2, .int .i64 0, .int .i64 0, .slice (some ⟨a1, 0, none⟩) 1 1, .int .i64 0, .int .i64 1, .slice (some ⟨a2, 0, none⟩) 1 1, .int .i64 7,
      .int .i64 2, .slice (some ⟨a3, 0, none⟩) 2 2, .int .i64 0, .int .i64 3, .slice (some ⟨a4, 0, none⟩) 1 1, .int .i64 0] : Array Value)[q + 1]? = some c1 → (#[Value.int .i64 0, .slice (some ⟨a0, 0, none⟩) 2 2, .int .i64 0, .int .i64 0, .slice (some ⟨a1, 0, none⟩) 1 1, .int .i64 0, .int .i64 1, .slice (some ⟨a2, 0, none⟩) 1 1, .int .i64 7,
      .int .i64 2, .slice (some ⟨a3, 0, none⟩) 2 2, .int .i64 0, .int .i64 3, .slice (some ⟨a4, 0, none⟩) 1 1, .int .i64 0] : Array Value)[q + 2]? = some c2 → ∀ i u, [c0, c1, c2][i]? = some u → (#[Value.int .i64 0, .slice (some ⟨a0, 0, none⟩) 2 2, .int .i64 0, .int .i64 0, .slice (some ⟨a1, 0, none⟩) 1 1, .int .i64 0, .int .i64 1, .slice (some ⟨a2, 0, none⟩) 1 1, .int .i64 7,
      .int .i64 2, .slice (some ⟨a3, 0, none⟩) 2 2, .int .i64 0, .int .i64 3, .slice (some ⟨a4, 0, none⟩) 1 1, .int .i64 0] : Array Value)[q + i]? = some u := by
    intro q c0 c1 c2 e0 e1 e2 i u hu
    rcases i with _ | _ | _ | i
    · simp at hu; subst hu; exact e0
    · simp at hu; subst hu; exact e1
    · simp at hu; subst hu; exact e2
    · simp at hu
  rcases j with _ | _ | _ | _ | _ | j
  · cases hj; exact ⟨_, rfl, kRul_mk w ⟨0, [0, -2], 0⟩ (Nat.le_refl 2) (C_intsB (xs := [0, -2]) h0 (by decide)), key 0 _ _ _ rfl rfl rfl⟩
  · cases hj; exact ⟨_, rfl, kRul_mk w ⟨0, [-3], 0⟩ (Nat.le_refl 1) (C_intsB (xs := [-3]) h1 (by decide)), key 3 _ _ _ rfl rfl rfl⟩
  · cases hj; exact ⟨_, rfl, kRul_mk w ⟨1, [1], 7⟩ (Nat.le_refl 1) (C_intsB (xs := [1]) h2 (by decide)), key 6 _ _ _ rfl rfl rfl⟩
  · cases hj; exact ⟨_, rfl, kRul_mk w ⟨2, [-3, 2], 0⟩ (Nat.le_refl 2) (C_intsB (xs := [-3, 2]) h3 (by decide)), key 9 _ _ _ rfl rfl rfl⟩
  · cases hj; exact ⟨_, rfl, kRul_mk w ⟨3, [3], 0⟩ (Nat.le_refl 1) (C_intsB (xs := [3]) h4 (by decide)), key 12 _ _ _ rfl rfl rfl⟩
  · simp [rA] at hj
/-- the reduced example's two rules in memory -/
theorem rowW {w : World} {b a0 a2 ty ti : Nat}
    (h0 : w.heap[a0]? = some (.cells #[.int .i64 0, .int .i64 (-2)] ti (0, 0))) (h2 : w.heap[a2]? = some (.cells #[.int .i64 1] ti (0, 0)))
    (h : w.heap[b]? = some (.cells #[.int .i64 0, .slice (some ⟨a0, 0, none⟩) 2 2, .int .i64 0, .int .i64 1, .slice (some ⟨a2, 0, none⟩) 1 1, .int .i64 7] ty (0, 0))) : kRul.C w (some ⟨b, 0, none⟩) 2 rW := by
  refine C_box (xs := rW) kRul h (by decide) (fun j p hj => ?_)
  have key : ∀ (q : Nat) (c0 c1 c2 : Value), (#[Value.int .i64 0, .slice (some ⟨a0, 0, none⟩) 2 2, .int .i64 0, .int .i64 1, .slice (some ⟨a2, 0, none⟩) 1 1, .int .i64 7] : Array Value)[q]? = some c0 → (#[Value.int .i64 0, .slice (some ⟨a0, 0, none⟩) 2 2, .int .i64 0, .int .i64 1, .slice (some ⟨a2, 0, none⟩) 1 1, .int .i64 7] : Array Value)[q + 1]? = some c1 → (#[Value.int .i64 0, .slice (some ⟨a0, 0, none⟩) 2 2, .int .i64 0, .int .i64 1, .slice (some ⟨a2, 0, none⟩) 1 1, .int .i64 7] : Array Value)[q + 2]? = some c2 → ∀ i u, [c0, c1, c2][i]? = some u → (#[Value.int .i64 0, .slice (some ⟨a0, 0, none⟩) 2 2, .int .i64 0, .int .i64 1, .slice (some ⟨a2, 0, none⟩) 1 1, .int .i64 7] : Array Value)[q + i]? = some u := by
    intro q c0 c1 c2 e0 e1 e2 i u hu
    rcases i with _ | _ | _ | i
    · simp at hu; subst hu; exact e0
    · simp at hu; subst hu; exact e1
    · simp at hu; subst hu; exact e2
    · simp at hu
  rcases j with _ | _ | j
  · cases hj; exact ⟨_, rfl, kRul_mk w ⟨0, [0, -2], 0⟩ (Nat.le_refl 2) (C_intsB (xs := [0, -2]) h0 (by decide)), key 0 _ _ _ rfl rfl rfl⟩
  · cases hj; exact ⟨_, rfl, kRul_mk w ⟨1, [1], 7⟩ (Nat.le_refl 1) (C_intsB (xs := [1]) h2 (by decide)), key 3 _ _ _ rfl rfl rfl⟩
  · simp [rW] at hj
end Go.Proofs.Ytadednkdhblpfaa.Law
