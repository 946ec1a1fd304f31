/- emendateref22.Few, walked: it answers a truth value; which, no law of this seat asks. -/
import Derived.Test.YtadednkdhblpfaaRef18d
namespace Go.Proofs.Ytadednkdhblpfaa.Ref
open Go.RowKit Go.Proofs.YtadednkdhblpfaaW.PrintWords Go.Proofs.YtadednkdhblpfaaW.PrintLast Go.Proofs.YtadednkdhblpfaaW.PrintMore Go.Proofs.Ytadednkdhblpfaa.B Go.Proofs.Ytadednkdhblpfaa.Val
set_option linter.unusedVariables false
set_option linter.unusedSimpArgs false

def SomeBool (w : World) (e : Ending) (w' : World) : Prop := ∃ b : Bool, e = .returned (.bool b) ∧ Below w.heap.size w w'

set_option maxHeartbeats 4000000 in
set_option maxRecDepth 100000 in
theorem few (g : Gr) (n : Int) (w : World)
    (At : Option Addr) (ct : Nat) (An : Option Addr) (cn : Nat) (Ar : Option Addr) (cr : Nat) (hg : GrC w At ct An cn Ar cr g) :
    Calls Try.prog 8 #[.agg #[.slice At g.terms.length ct, .slice An g.nonterms.length cn, .int .i64 g.start, .slice Ar g.rules.length cr], .int .i64 n] w (SomeBool w) := by
  have HG := Aside0.mk hg
  have m0 : g.rules.length ≤ 9223372036854775807 := hg.rules.2.1
  have m1 : g.terms.length ≤ 9223372036854775807 := hg.terms.2.1
  have m2 : g.nonterms.length ≤ 9223372036854775807 := hg.nonterms.2.1
  clear hg
  generalize hW : w.alloc (.cells #[.slice At g.terms.length ct, .slice An g.nonterms.length cn, .int .i64 g.start, .slice Ar g.rules.length cr] 25) = W
  have HZ : W.heap[w.heap.size]? = some (.cells #[.slice At g.terms.length ct, .slice An g.nonterms.length cn, .int .i64 g.start, .slice Ar g.rules.length cr] 25 (0, 0)) := by rw [← hW]; exact blk_new _ _
  have HB := Aside0.mk (show Below w.heap.size w W by rw [← hW]; exact (Below.refl _ _).alloc (Nat.le_refl _) _)
  have z0 : W.cell? ⟨w.heap.size, 0, none⟩ = some (.slice At g.terms.length ct) := (blk_cell HZ 0).trans rfl
  have z1 : W.cell? ⟨w.heap.size, 1, none⟩ = some (.slice An g.nonterms.length cn) := (blk_cell HZ 1).trans rfl
  have z3 : W.cell? ⟨w.heap.size, 3, none⟩ = some (.slice Ar g.rules.length cr) := (blk_cell HZ 3).trans rfl
  clear HZ
  cases d0 : decide (n < (g.rules.length : Int)) with
  | true =>
    go_enter Try.func8, Try.ntmps8
    go_wp2_with fail
    go_ret
    exact ⟨_, rfl, HB.out⟩
  | false =>
  cases d1 : decide (12 < (g.terms.length : Int)) with
  | true =>
    go_enter Try.func8, Try.ntmps8
    go_wp2_with fail
    go_ret
    exact ⟨_, rfl, HB.out⟩
  | false =>
  cases d2 : decide (16 < (g.nonterms.length : Int)) with
  | true =>
    go_enter Try.func8, Try.ntmps8
    go_wp2_with fail
    go_ret
    exact ⟨_, rfl, HB.out⟩
  | false =>
  go_enter Try.func8, Try.ntmps8
  go_wp2_with fail
  clear d0 d1 d2
  go_loop [5] (fun i => ∃ k : Nat, i = .int .i64 k ∧ k ≤ g.rules.length) (fun i => g.rules.length - (intOf i).toNat)
  case atStart => exact ⟨0, rfl, Nat.zero_le _⟩
  case round =>
    obtain ⟨k, rfl, hk⟩ := hrel
    by_cases hlt : k < g.rules.length
    · obtain ⟨ad, A1, c1, e, h1, h2, h3, hl, hc⟩ := at_rul (Kd.C_below HG.out.rules HB.out) k hlt
      have hd : decide ((k : Int) < (g.rules.length : Int)) = true := decide_eq_true (by omega)
      clear hc hl
      cases e
      cases d3 : decide (6 < ((rdOf Rul.zero g.rules k).body.length : Int)) with
      | true =>
        go_wp2_with fail
        go_ret
        exact ⟨_, rfl, HB.out⟩
      | false =>
        go_wp2_with fail
        go_round
        case rel => exact ⟨k + 1, by simp, by omega⟩
        case measure => simp [intOf]; omega
    · obtain rfl : k = g.rules.length := by omega
      go_wp2_with fail
      go_loop [6] (fun i => ∃ k : Nat, i = .int .i64 k ∧ k ≤ g.terms.length) (fun i => g.terms.length - (intOf i).toNat)
      case atStart => exact ⟨0, rfl, Nat.zero_le _⟩
      case round =>
        obtain ⟨k, rfl, hk⟩ := hrel
        by_cases hlt : k < g.terms.length
        · obtain ⟨ad, e, hx⟩ := at_str (Kd.C_below HG.out.terms HB.out) k hlt
          have hd : decide ((k : Int) < (g.terms.length : Int)) = true := decide_eq_true (by omega)
          cases e
          cases d3 : decide (40 < ((rdOf ByteArray.empty g.terms k).size : Int)) with
          | true =>
            go_wp2_with fail
            go_ret
            exact ⟨_, rfl, HB.out⟩
          | false =>
            go_wp2_with fail
            go_round
            case rel => exact ⟨k + 1, by simp, by omega⟩
            case measure => simp [intOf]; omega
        · obtain rfl : k = g.terms.length := by omega
          go_wp2_with fail
          go_loop [7] (fun i => ∃ k : Nat, i = .int .i64 k ∧ k ≤ g.nonterms.length) (fun i => g.nonterms.length - (intOf i).toNat)
          case atStart => exact ⟨0, rfl, Nat.zero_le _⟩
          case round =>
            obtain ⟨k, rfl, hk⟩ := hrel
            by_cases hlt : k < g.nonterms.length
            · obtain ⟨ad, e, hx⟩ := at_str (Kd.C_below HG.out.nonterms HB.out) k hlt
              have hd : decide ((k : Int) < (g.nonterms.length : Int)) = true := decide_eq_true (by omega)
              cases e
              cases d3 : decide (40 < ((rdOf ByteArray.empty g.nonterms k).size : Int)) with
              | true =>
                go_wp2_with fail
                go_ret
                exact ⟨_, rfl, HB.out⟩
              | false =>
                go_wp2_with fail
                go_round
                case rel => exact ⟨k + 1, by simp, by omega⟩
                case measure => simp [intOf]; omega
            · obtain rfl : k = g.nonterms.length := by omega
              go_wp2_with fail
              go_ret
              exact ⟨_, rfl, HB.out⟩
end Go.Proofs.Ytadednkdhblpfaa.Ref
