/- The document's example: what reduceR answers at it. -/
import Derived.Test.YtadednkdhblpfaaRedSpec
namespace Go.Proofs.Ytadednkdhblpfaa.Law
open Go.RowKit Go.Proofs.Ytadednkdhblpfaa.B Go.Proofs.Ytadednkdhblpfaa.Val Go.Proofs.Ytadednkdhblpfaa.Ana Go.Proofs.Ytadednkdhblpfaa.Red
set_option linter.unusedVariables false
set_option linter.unusedSimpArgs false

def tA : List ByteArray := [⟨#[97]⟩, ⟨#[98]⟩, ⟨#[99]⟩, ⟨#[100]⟩]
def nA : List ByteArray := [⟨#[83]⟩, ⟨#[66]⟩, ⟨#[67]⟩, ⟨#[68]⟩]
def nW : List ByteArray := [⟨#[83]⟩, ⟨#[66]⟩]
def rA : List Rul := [⟨0, [0, -2], 0⟩, ⟨0, [-3], 0⟩, ⟨1, [1], 7⟩, ⟨2, [-3, 2], 0⟩, ⟨3, [3], 0⟩]
def rW : List Rul := [⟨0, [0, -2], 0⟩, ⟨1, [1], 7⟩]
/-- the example, with its start -/
def gA (st : Int) : Gr := ⟨tA, nA, st, rA⟩
/-- the example reduced -/
def gW : Gr := ⟨tA, nW, 0, rW⟩

theorem okA : ∀ r ∈ rA, RulOk 4 r := by
  intro r hr
  simp only [rA, List.mem_cons, List.not_mem_nil, or_false] at hr
  rcases hr with rfl | rfl | rfl | rfl | rfl <;> exact ⟨by decide, by decide, by decide⟩
theorem hp1 : HP rA true 1 := HP.mk ⟨1, [1], 7⟩ (by simp [rA]) (fun x hx h => by simp at hx; omega) (fun _ _ _ => rfl)
theorem hp0 : HP rA true 0 := HP.mk ⟨0, [0, -2], 0⟩ (by simp [rA]) (fun x hx h => by
  simp at hx; rcases hx with rfl | rfl
  · omega
  · exact hp1) (fun _ _ _ => rfl)
theorem hp3 : HP rA true 3 := HP.mk ⟨3, [3], 0⟩ (by simp [rA]) (fun x hx h => by simp at hx; omega) (fun _ _ _ => rfl)
theorem hp2 : ¬ HP rA true 2 := fun h => by
  have := heads_all (n := 4) (out := [true, true, false, true]) okA (by decide +kernel) h
  exact absurd this (by decide)
theorem headsA (st : Int) : prL (gA st) = [true, true, false, true] := by
  refine (HeadsOut.eq (g := gA st) ⟨rfl, fun k hk => ?_⟩).symm
  have hk : k < 4 := hk
  rcases (show k = 0 ∨ k = 1 ∨ k = 2 ∨ k = 3 by omega) with rfl | rfl | rfl | rfl
  · exact ⟨fun _ => hp0, fun _ => rfl⟩
  · exact ⟨fun _ => hp1, fun _ => rfl⟩
  · exact ⟨fun h => absurd h (by decide), fun h => absurd h hp2⟩
  · exact ⟨fun _ => hp3, fun _ => rfl⟩
theorem useA : useL (gA 0) = [true, true, false, false] := by
  refine (UsefulOut.eq (g := gA 0) ?_).symm
  rw [headsA]
  have h0 : UP (gA 0) [true, true, false, true] 0 := UP.start
  have h1 : UP (gA 0) [true, true, false, true] 1 := (show (-1 - (-2) : Int) = 1 by decide) ▸ UP.step (g := gA 0) ⟨0, [0, -2], 0⟩ (by simp [gA, rA]) h0 (by decide +kernel) (-2) (by simp) (by decide)
  have hi : UInv (gA 0) [true, true, false, true] [true, true, false, false] := ⟨rfl, rfl, fun k hk h => by
    have hk : k < 4 := hk
    rcases (show k = 0 ∨ k = 1 ∨ k = 2 ∨ k = 3 by omega) with rfl | rfl | rfl | rfl
    · exact h0
    · exact h1
    · exact absurd h (by decide)
    · exact absurd h (by decide)⟩
  have hs : ∀ r ∈ (gA 0).rules, RuleShut [true, true, false, true] [true, true, false, false] r := by
    intro r hr
    have hr : r ∈ rA := hr
    simp only [rA, List.mem_cons, List.not_mem_nil, or_false] at hr
    rcases hr with rfl | rfl | rfl | rfl | rfl <;> (unfold RuleShut; decide +kernel)
  exact ⟨rfl, fun k hk => ⟨hi.sound k hk, useful_all hi hs⟩⟩
theorem validA0 : validB (gA 0) = true := by decide +kernel
theorem validA2 : validB (gA 2) = true := by decide +kernel
theorem reduceA : reduceR (gA 0) = (gW, [0, 2], 0) := by
  unfold reduceR
  rw [validA0, headsA, useA]
  have h1 : redG (gA 0) [true, true, false, true] [true, true, false, false] = gW := by
    unfold redG
    congr 1
  rw [h1]
  rfl
theorem reduceA2 : reduceR (gA 2) = (Gr.zero, [], 10) := by
  unfold reduceR
  rw [validA2, headsA]
  rfl
end Go.Proofs.Ytadednkdhblpfaa.Law
