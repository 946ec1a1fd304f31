/- slices.Clone at []string, by the shelf's contract: any slice that reads as a list. -/
import Derived.Test.YtadednkdhblpfaaRow
import Derived.Test.YtadednkdhblpfaaNamed
import Derived.Test.YtadednkdhblpfaaShelf
namespace Go.Proofs.Ytadednkdhblpfaa.B
open Go.RowKit Go.Proofs.YtadednkdhblpfaaW.PrintWords Go.Proofs.YtadednkdhblpfaaW.PrintLast Go.Proofs.YtadednkdhblpfaaW.PrintMore
set_option linter.unusedVariables false
set_option linter.unusedSimpArgs false

def ClonePost (w : World) (l : List ByteArray) (e : Ending) (w' : World) : Prop :=
  ∃ v S, e = .returned v ∧ Row Kd.string 9 w' w.heap.size S v l ∧ Below w.heap.size w w'
theorem cloneStr (A : Option Addr) (c : Nat) (l : List ByteArray) (w : World) (h : Kd.C Kd.string w A l.length l) (hc : l.length ≤ c) (hb : l.length * 16 ≤ 140737488355328) :
    Calls Try.prog 20 #[.slice A l.length c] w (ClonePost w l) := by
  by_cases h0 : l.length = 0
  · obtain rfl := List.eq_nil_of_length_eq_zero h0
    cases A with
    | none =>
      refine (Try.slices_Clone_string_nil 0 c w).mono ?_
      rintro e w' ⟨rfl, rfl⟩
      exact ⟨_, _, rfl, Row.nil _ _ _ _, Below.refl _ _⟩
    | some a =>
      refine (Try.slices_Clone_string_zero a c w).mono ?_
      rintro e w' ⟨v, rfl, hown, _, hb⟩
      exact ⟨v, _, rfl, Row.of_R (Kd.R_of_own (enc := Value.string) (xs := []) hown (fun _ _ => trivial)), hb⟩
  · obtain ⟨ad, e, hx⟩ := Val.at_str h 0 (by omega)
    cases e
    obtain ⟨b, off, sp⟩ := ad
    obtain rfl : sp = none := World.cell?_spot hx
    have hadd : ∀ j, (⟨b, off, none⟩ : Addr).add j = ⟨b, off + j, none⟩ := fun j => by unfold Addr.add; split <;> simp_all
    have hcells : ∀ j, j < l.length → w.cell? ⟨b, off + j, none⟩ = some (.string (l.getD j ByteArray.empty)) := by
      intro j hj
      obtain ⟨ad', e', hx'⟩ := Val.at_str h j hj
      cases e'
      rw [hadd] at hx'
      exact hx'
    refine (Try.slices_Clone_string b off l.length c l w (Nat.le_refl _) hb hcells).mono ?_
    rintro e w' ⟨v, rfl, hown, _, hbl⟩
    rw [List.take_length] at hown
    exact ⟨v, _, rfl, Row.of_R (Kd.R_of_own (enc := Value.string) hown (fun _ _ => trivial)), hbl⟩
end Go.Proofs.Ytadednkdhblpfaa.B
