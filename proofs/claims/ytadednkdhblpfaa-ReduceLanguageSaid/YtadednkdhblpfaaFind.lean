/- slices.IndexFunc and slices.ContainsFunc at []int with a function value that only reads: what they answer. -/
import Derived.Test.YtadednkdhblpfaaBase
namespace Go.Proofs.Ytadednkdhblpfaa.B
open Go.RowKit Go.Proofs.YtadednkdhblpfaaW.PrintWords Go.Proofs.YtadednkdhblpfaaW.PrintLast Go.Proofs.YtadednkdhblpfaaW.PrintMore
set_option linter.unusedVariables false
set_option linter.unusedSimpArgs false

/-- slices.IndexFunc, from index i on. -/
def idxFrom {α : Type} (p : α → Bool) : List α → Nat → Int
  | [], _ => -1
  | x :: r, i => if p x then (i : Int) else idxFrom p r (i + 1)
theorem idxFrom_nonneg {α : Type} (p : α → Bool) (l : List α) (i : Nat) : (idxFrom p l i ≥ 0) ↔ l.any p = true := by
  induction l generalizing i with
  | nil => simp [idxFrom]
  | cons x r ih =>
    unfold idxFrom
    by_cases h : p x = true
    · simp [h]
    · simp [h, ih]

/-- The function value (function fid, captured caps), called at any element, answers p and only reads. -/
def QuietInt (w : World) (fid : Nat) (caps : Array Value) (p : Int → Bool) (l : List Int) : Prop :=
  ∀ m x, x ∈ l → Calls Try.prog fid (#[.int .i64 x] ++ caps) (w.drewN m) (fun e w' => e = .returned (.bool (p x)) ∧ Drawn0 (w.drewN m) w')

set_option maxHeartbeats 1000000 in
set_option maxRecDepth 100000 in
theorem indexFunc (A0 : Option Addr) (c0 : Nat) (l0 : List Int) (fid : Nat) (caps : Array Value) (p : Int → Bool) (w : World)
    (hr0 : Kd.C (Kd.int .i64) w A0 l0.length l0) (hc0 : l0.length ≤ c0) (hq : QuietInt w fid caps p l0)
    (hcf : ∀ args W, Sem.run Try.prog (callFunc fid args) W = .ok (.enter fid args) W) :
    Calls Try.prog 41 #[.slice A0 l0.length c0, .func (.func fid) #[] caps] w fun e w' => e = .returned (.int .i64 (idxFrom p l0 0)) ∧ Drawn0 w w' := by
  have hm : l0.length ≤ 9223372036854775807 := hr0.2.1
  go_enter Try.func41, Try.ntmps41
  go_wp2_with fail
  have HR := Aside0.mk hr0
  have HQ := Aside0.mk hq
  have HC := Aside0.mk hc0
  clear hr0 hq hc0
  go_loopw [8] (fun i wr => ∃ k : Nat, i = .int .i64 k ∧ k ≤ l0.length ∧ Aside0 (idxFrom p l0 0 = idxFrom p (l0.drop k) k) ∧ Drawn0 w wr) (fun i _ => l0.length - (intOf i).toNat)
  case atStart => exact ⟨0, rfl, Nat.zero_le _, ⟨rfl⟩, Drawn0.refl _⟩
  case round =>
    obtain ⟨k, rfl, hk, HI, ⟨m, rfl⟩⟩ := hrel
    by_cases hlt : k < l0.length
    · obtain ⟨ad, e, hx⟩ := at_int HR.out k hlt
      cases e
      go_wp2_with fail
      refine (HQ.out m _ (rd_mem l0 k hlt)).mono ?_
      rintro e w' ⟨rfl, ⟨m', rfl⟩⟩
      have HI2 : Aside0 (idxFrom p l0 0 = if p (rd l0 k) then (k : Int) else idxFrom p (l0.drop (k + 1)) (k + 1)) := ⟨by rw [HI.out, drop_rd l0 k hlt]; rfl⟩
      clear HI
      cases hp : p (rd l0 k) with
      | true =>
        rw [hp] at HI2
        go_wp2_with fail
        go_ret
        exact ⟨by rw [HI2.out]; rfl, ⟨_, rfl⟩⟩
      | false =>
        rw [hp] at HI2
        go_wp2_with fail
        go_roundw
        case rel => exact ⟨k + 1, by simp, by omega, ⟨by rw [HI2.out]; rfl⟩, ⟨_, rfl⟩⟩
        case measure => simp [intOf]; omega
    · obtain rfl : k = l0.length := by omega
      go_wp2_with fail
      go_ret
      exact ⟨by rw [HI.out]; simp [idxFrom], ⟨m, rfl⟩⟩

theorem any_idx {α : Type} (p : α → Bool) (l : List α) : decide (idxFrom p l 0 ≥ 0) = l.any p := by
  have h := idxFrom_nonneg p l 0
  cases hb : l.any p with
  | true => exact decide_eq_true (h.2 hb)
  | false => exact decide_eq_false (fun hg => by rw [h.1 hg] at hb; cases hb)

set_option maxHeartbeats 1000000 in
set_option maxRecDepth 100000 in
theorem containsFunc (A0 : Option Addr) (c0 : Nat) (l0 : List Int) (fid : Nat) (caps : Array Value) (p : Int → Bool) (w : World)
    (hr0 : Kd.C (Kd.int .i64) w A0 l0.length l0) (hc0 : l0.length ≤ c0) (hq : QuietInt w fid caps p l0)
    (hcf : ∀ args W, Sem.run Try.prog (callFunc fid args) W = .ok (.enter fid args) W) :
    Calls Try.prog 33 #[.slice A0 l0.length c0, .func (.func fid) #[] caps] w fun e w' => e = .returned (.bool (l0.any p)) ∧ Drawn0 w w' := by
  have HP := Aside0.mk (any_idx p l0)
  have HR := Aside0.mk hr0
  have HQ := Aside0.mk hq
  have HC := Aside0.mk hc0
  clear hr0 hq hc0
  go_enter Try.func33, Try.ntmps33
  go_wp2_with fail
  refine (indexFunc A0 c0 l0 fid caps p w HR.out HC.out HQ.out hcf).mono ?_
  rintro e w' ⟨rfl, ⟨m', rfl⟩⟩
  go_wp2_with fail
  go_ret
  exact ⟨by rw [← HP.out]; rfl, ⟨m', rfl⟩⟩
end Go.Proofs.Ytadednkdhblpfaa.B
