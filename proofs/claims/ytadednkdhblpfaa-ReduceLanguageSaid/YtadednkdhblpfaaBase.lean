/- Small lemmas on rows that are read and on what a call changes, used by all walks of this seat. -/
import Derived.Test.YtadednkdhblpfaaProg
import Derived.Test.YtadednkdhblpfaaWMore
import Derived.Deep.QuietTactic
import Derived.BigQuiet
import Derived.Deep.LoopGhost
import Derived.Deep.DeepCutAuto
import Derived.Deep.CutBlock
import Derived.WalkKit
import Derived.KernelRfl
namespace Go.Proofs.Ytadednkdhblpfaa.B
open Go.RowKit Go.Proofs.YtadednkdhblpfaaW.PrintWords Go.Proofs.YtadednkdhblpfaaW.PrintLast Go.Proofs.YtadednkdhblpfaaW.PrintMore
set_option linter.unusedVariables false
set_option linter.unusedSimpArgs false

theorem at_int {ik : IntKind} {w : World} {A : Option Addr} {n : Nat} {xs : List Int} (h : Kd.C (Kd.int ik) w A n xs) (k : Nat) (hk : k < n) :
    ∃ ad, A = some ad ∧ w.cell? (ad.add k) = some (.int ik (rd xs k)) := by
  obtain ⟨ad, e, hx⟩ := Kd.at_int h (k : Int) (by omega) (by omega)
  exact ⟨ad, e, hx⟩
theorem rd_nat (xs : List Int) (k : Nat) (hk : k < xs.length) : rd xs k = xs[k] := by
  simp [rd, List.getD_eq_getElem?_getD, hk]
theorem rd_mem (xs : List Int) (k : Nat) (hk : k < xs.length) : rd xs k ∈ xs := by
  rw [rd_nat xs k hk]; exact List.getElem_mem hk
theorem drop_rd (xs : List Int) (k : Nat) (hk : k < xs.length) : xs.drop k = rd xs k :: xs.drop (k + 1) := by
  rw [List.drop_eq_getElem_cons hk, rd_nat xs k hk]
theorem rdOf_nat {α : Type} (d : α) (xs : List α) (k : Nat) (hk : k < xs.length) : rdOf d xs k = xs[k] := by
  simp [rdOf, List.getD_eq_getElem?_getD, hk]
theorem drop_rdOf {α : Type} (d : α) (xs : List α) (k : Nat) (hk : k < xs.length) : xs.drop k = rdOf d xs k :: xs.drop (k + 1) := by
  rw [List.drop_eq_getElem_cons hk, rdOf_nat d xs k hk]
theorem rdOf_mem {α : Type} (d : α) (xs : List α) (k : Nat) (hk : k < xs.length) : rdOf d xs k ∈ xs := by
  rw [rdOf_nat d xs k hk]; exact List.getElem_mem hk
theorem wrap_succ (k n : Nat) (hk : k < n) (hn : n ≤ 9223372036854775807) : wrap64 ((k : Int) + 1) = ((k + 1 : Nat) : Int) := by
  unfold wrap64; omega
theorem C_length {α : Type} {d : Kd α} {w : World} {A : Option Addr} {n : Nat} {xs : List α} (h : d.C w A n xs) : xs.length = n := h.1
theorem rb {a b : Bool} (h : b = a) : Ending.returned (.bool a) = .returned (.bool b) := by rw [h]
theorem ri {k : IntKind} {a b : Int} (h : b = a) : Ending.returned (.int k a) = .returned (.int k b) := by rw [h]
theorem drawn_refl (w : World) : Drawn0 w w := ⟨⟨0, rfl⟩⟩

/-- What lies between w and w': new blocks, orders drawn, and writes to the blocks of S. -/
structure Ch (S : Nat → Prop) (w w' : World) : Prop where
  os : w'.os = w.os
  tape : w'.tape = w.tape
  output : w'.output = w.output
  size : w.heap.size ≤ w'.heap.size
  block : ∀ k, k < w.heap.size → ¬ S k → w'.heap[k]? = w.heap[k]?
namespace Ch
variable {S T : Nat → Prop} {w w1 w2 : World}
theorem refl (S : Nat → Prop) (w : World) : Ch S w w := ⟨rfl, rfl, rfl, Nat.le_refl _, fun _ _ _ => rfl⟩
theorem trans (h : Ch S w w1) (k : Ch T w1 w2) (hs : ∀ i, i < w.heap.size → T i → S i) : Ch S w w2 :=
  ⟨k.os.trans h.os, k.tape.trans h.tape, k.output.trans h.output, Nat.le_trans h.size k.size, fun i hi hn =>
    (k.block i (Nat.lt_of_lt_of_le hi h.size) (fun ht => hn (hs i hi ht))).trans (h.block i hi hn)⟩
theorem mono (h : Ch S w w1) (hs : ∀ i, i < w.heap.size → S i → T i) : Ch T w w1 := ⟨h.os, h.tape, h.output, h.size, fun i hi hn => h.block i hi (fun k => hn (hs i hi k))⟩
theorem of_below (h : Below w.heap.size w w1) : Ch S w w1 := ⟨h.os, h.tape, h.output, h.size, fun i hi _ => h.block i hi⟩
theorem of_drawn (h : Drawn0 w w1) : Ch S w w1 := of_below h.below
theorem below (h : Ch S w w1) (k : Below w1.heap.size w1 w2) : Ch S w w2 := h.trans (T := fun _ => False) (of_below k) (fun _ _ hf => hf.elim)
theorem drawn (h : Ch S w w1) (k : Drawn0 w1 w2) : Ch S w w2 := h.below k.below
theorem alloc (h : Ch S w w1) (o : Obj) : Ch S w (w1.alloc o) := h.below (below_alloc (Below.refl _ _) o)
theorem drew (h : Ch S w w1) : Ch S w w1.drew := ⟨h.os, h.tape, h.output, h.size, h.block⟩
theorem drewN (h : Ch S w w1) (n : Nat) : Ch S w (w1.drewN n) := ⟨h.os, h.tape, h.output, h.size, h.block⟩
theorem setCell (h : Ch S w w1) {p : Addr} (hp : S p.block ∨ w.heap.size ≤ p.block) (u : Value) : Ch S w (w1.setCell p u) :=
  h.trans (T := fun k => k = p.block) ⟨rfl, rfl, rfl, by simp [World.setCell], fun i _ hn => Below.heap_setCell w1 p u i hn⟩
    (fun i hi e => by subst e; exact hp.resolve_right (by omega))
theorem grown {row : Option Nat} (h : Ch S w w1) (k : w1.grownBy w2 row) (hs : ∀ b, row = some b → S b ∨ w.heap.size ≤ b) : Ch S w w2 :=
  h.trans (T := fun i => some i = row) ⟨k.os, k.tape, k.output, k.size, fun i hi hn => k.block i hi hn⟩
    (fun i hi e => (hs i e.symm).resolve_right (by omega))
theorem to_below (h : Ch S w w1) (hs : ∀ i, i < w.heap.size → ¬ S i) : Below w.heap.size w w1 := ⟨h.os, h.tape, h.output, h.size, fun i hi => h.block i hi (hs i hi)⟩
theorem blk {b : Nat} {o : Obj} (h : Ch S w w1) (hb : w.heap[b]? = some o) (hn : ¬ S b) : w1.heap[b]? = some o := (h.block b (blk_lt hb) hn).trans hb
theorem under {B : Nat} {w0 : World} (h : Ch S w w1) (hb : Below B w0 w) (hB : B ≤ w.heap.size) (hS : ∀ i, S i → B ≤ i) : Below B w0 w1 :=
  hb.trans ⟨h.os, h.tape, h.output, h.size, fun i hi => h.block i (Nat.lt_of_lt_of_le hi hB) (fun k => by have := hS i k; omega)⟩
end Ch
end Go.Proofs.Ytadednkdhblpfaa.B
