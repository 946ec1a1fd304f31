/- grammar.Valid, walked. -/
import Derived.Test.YtadednkdhblpfaaNamed
import Derived.Test.YtadednkdhblpfaaFind
namespace Go.Proofs.Ytadednkdhblpfaa.Val
open Go.RowKit Go.Proofs.YtadednkdhblpfaaW.PrintWords Go.Proofs.YtadednkdhblpfaaW.PrintLast Go.Proofs.YtadednkdhblpfaaW.PrintMore Go.Proofs.Ytadednkdhblpfaa.B
set_option linter.unusedVariables false
set_option linter.unusedSimpArgs false

/-- a symbol is out of range -/
def symBad (nt nn : Nat) (x : Int) : Bool := decide (x ≥ nt) || decide (x < -(nn : Int))
/-- a rule is valid -/
def rulB (nt nn : Nat) (r : Rul) : Bool := decide (0 ≤ r.head) && decide (r.head < nn) && decide (r.body.length ≤ 12) && decide (0 ≤ r.price) && decide (r.price ≤ 1000) && !(r.body.any (symBad nt nn))
/-- a grammar is valid -/
def validB (g : Gr) : Bool :=
  decide (g.terms.length ≤ 120) && decide (1 ≤ g.nonterms.length) && decide (g.nonterms.length ≤ 120) && namesOk (g.terms ++ g.nonterms) && decide (0 ≤ g.start) && decide (g.start < g.nonterms.length) &&
    decide (1 ≤ g.rules.length) && decide (g.rules.length ≤ 120) && g.rules.all (rulB g.terms.length g.nonterms.length)

set_option maxHeartbeats 1000000 in
set_option maxRecDepth 100000 in
theorem valid1 (x : Int) (gb : Nat) (w : World) (nt nn ct cn : Nat) (At An : Option Addr) (h1 : w.cell? ⟨gb, 0, none⟩ = some (.slice At nt ct)) (h2 : w.cell? ⟨gb, 1, none⟩ = some (.slice An nn cn)) (hn : nn ≤ 120) :
    Calls Try.prog 34 #[.int .i64 x, .pointer (some ⟨gb, 0, none⟩)] w fun e w' => e = .returned (.bool (symBad nt nn x)) ∧ Drawn0 w w' := by
  by_cases hx : (nt : Int) ≤ x
  · have HF := Aside0.mk (show symBad nt nn x = true by unfold symBad; rw [decide_eq_true (by omega)]; rfl)
    have d1 : decide ((nt : Int) ≤ x) = true := decide_eq_true hx
    go_enter Try.func34, Try.ntmps34
    go_wp2_with fail
    go_ret
    exact ⟨rb HF.out, drawn_refl _⟩
  · have HF := Aside0.mk (show symBad nt nn x = decide (x < -(nn : Int)) by unfold symBad; rw [decide_eq_false (by omega)]; rfl)
    have d1 : decide ((nt : Int) ≤ x) = false := decide_eq_false hx
    go_enter Try.func34, Try.ntmps34
    go_wp2_with fail
    go_ret
    exact ⟨rb HF.out, drawn_refl _⟩

set_option maxHeartbeats 4000000 in
set_option maxRecDepth 100000 in
theorem valid (g : Gr) (w : World) (hM : MaxL w)
    (At : Option Addr) (ct : Nat) (An : Option Addr) (cn : Nat) (Ar : Option Addr) (cr : Nat) (hg : GrC w At ct An cn Ar cr g) :
    Calls Try.prog 18 #[.agg #[.slice At g.terms.length ct, .slice An g.nonterms.length cn, .int .i64 g.start, .slice Ar g.rules.length cr]] w
      fun e w' => e = .returned (.bool (validB g)) ∧ Below w.heap.size w w' := by
  have HG := Aside0.mk hg
  have HM := Aside0.mk hM
  clear hg hM
  by_cases k0 : 120 < (g.terms.length : Int)
  · have HF := Aside0.mk (show validB g = false by
        unfold validB; simp only [Bool.and_eq_false_iff, decide_eq_false_iff_not]; omega)
    have d0 : decide (120 < (g.terms.length : Int)) = true := decide_eq_true k0
    go_enter Try.func18, Try.ntmps18
    go_wp2_with fail
    go_ret
    exact ⟨rb HF.out, (Below.refl _ _).alloc (Nat.le_refl _) _⟩
  have d0 : decide (120 < (g.terms.length : Int)) = false := decide_eq_false k0
  by_cases k1 : (g.nonterms.length : Int) < 1
  · have HF := Aside0.mk (show validB g = false by
        unfold validB; simp only [Bool.and_eq_false_iff, decide_eq_false_iff_not]; omega)
    have d1 : decide ((g.nonterms.length : Int) < 1) = true := decide_eq_true k1
    go_enter Try.func18, Try.ntmps18
    go_wp2_with fail
    go_ret
    exact ⟨rb HF.out, (Below.refl _ _).alloc (Nat.le_refl _) _⟩
  have d1 : decide ((g.nonterms.length : Int) < 1) = false := decide_eq_false k1
  by_cases k2 : 120 < (g.nonterms.length : Int)
  · have HF := Aside0.mk (show validB g = false by
        unfold validB; simp only [Bool.and_eq_false_iff, decide_eq_false_iff_not]; omega)
    have d2 : decide (120 < (g.nonterms.length : Int)) = true := decide_eq_true k2
    go_enter Try.func18, Try.ntmps18
    go_wp2_with fail
    go_ret
    exact ⟨rb HF.out, (Below.refl _ _).alloc (Nat.le_refl _) _⟩
  have d2 : decide (120 < (g.nonterms.length : Int)) = false := decide_eq_false k2
  cases hn : namesOk (g.terms ++ g.nonterms) with
  | false =>
    have HF := Aside0.mk (show validB g = false by unfold validB; rw [hn]; simp)
    have HN := Aside0.mk hn
    clear hn
    go_enter Try.func18, Try.ntmps18
    go_wp2_with fail
    refine (named g _ (HM.out.below ((Below.refl w.heap.size w).alloc (Nat.le_refl _) (.cells #[.slice At g.terms.length ct, .slice An g.nonterms.length cn, .int .i64 g.start, .slice Ar g.rules.length cr] 25)) (by obtain ⟨m, hm⟩ := HM.out; exact World.block_lt_of_cell? w _ hm)) At ct An cn Ar cr (HG.out.below ((Below.refl w.heap.size w).alloc (Nat.le_refl _) (.cells #[.slice At g.terms.length ct, .slice An g.nonterms.length cn, .int .i64 g.start, .slice Ar g.rules.length cr] 25))) (by simp [maxLen]; omega)).mono ?_
    rintro e w1 ⟨rfl, hb1⟩
    have HB1 := Aside0.mk (((Below.refl w.heap.size w).alloc (Nat.le_refl _) (.cells #[.slice At g.terms.length ct, .slice An g.nonterms.length cn, .int .i64 g.start, .slice Ar g.rules.length cr] 25)).trans (hb1.mono (by simp)))
    have HZ1 := Aside0.mk (blk_below (blk_new w (.cells #[.slice At g.terms.length ct, .slice An g.nonterms.length cn, .int .i64 g.start, .slice Ar g.rules.length cr] 25)) hb1)
    have c0 : w1.cell? ⟨w.heap.size, 0, none⟩ = some (.slice At g.terms.length ct) := (blk_cell HZ1.out 0).trans rfl
    have c1 : w1.cell? ⟨w.heap.size, 1, none⟩ = some (.slice An g.nonterms.length cn) := (blk_cell HZ1.out 1).trans rfl
    have c2 : w1.cell? ⟨w.heap.size, 2, none⟩ = some (.int .i64 g.start) := (blk_cell HZ1.out 2).trans rfl
    have c3 : w1.cell? ⟨w.heap.size, 3, none⟩ = some (.slice Ar g.rules.length cr) := (blk_cell HZ1.out 3).trans rfl
    clear hb1
    rw [HN.out]
    go_wp2_with fail
    go_ret
    exact ⟨rb HF.out, HB1.out⟩
  | true =>
    have HN := Aside0.mk hn
    have HNk := hn
    clear hn
    by_cases k4 : g.start < 0
    · have HF := Aside0.mk (show validB g = false by
          unfold validB; simp only [Bool.and_eq_false_iff, decide_eq_false_iff_not]; omega)
      have d4 : decide (g.start < 0) = true := decide_eq_true k4
      go_enter Try.func18, Try.ntmps18
      go_wp2_with fail
      refine (named g _ (HM.out.below ((Below.refl w.heap.size w).alloc (Nat.le_refl _) (.cells #[.slice At g.terms.length ct, .slice An g.nonterms.length cn, .int .i64 g.start, .slice Ar g.rules.length cr] 25)) (by obtain ⟨m, hm⟩ := HM.out; exact World.block_lt_of_cell? w _ hm)) At ct An cn Ar cr (HG.out.below ((Below.refl w.heap.size w).alloc (Nat.le_refl _) (.cells #[.slice At g.terms.length ct, .slice An g.nonterms.length cn, .int .i64 g.start, .slice Ar g.rules.length cr] 25))) (by simp [maxLen]; omega)).mono ?_
      rintro e w1 ⟨rfl, hb1⟩
      have HB1 := Aside0.mk (((Below.refl w.heap.size w).alloc (Nat.le_refl _) (.cells #[.slice At g.terms.length ct, .slice An g.nonterms.length cn, .int .i64 g.start, .slice Ar g.rules.length cr] 25)).trans (hb1.mono (by simp)))
      have HZ1 := Aside0.mk (blk_below (blk_new w (.cells #[.slice At g.terms.length ct, .slice An g.nonterms.length cn, .int .i64 g.start, .slice Ar g.rules.length cr] 25)) hb1)
      have c0 : w1.cell? ⟨w.heap.size, 0, none⟩ = some (.slice At g.terms.length ct) := (blk_cell HZ1.out 0).trans rfl
      have c1 : w1.cell? ⟨w.heap.size, 1, none⟩ = some (.slice An g.nonterms.length cn) := (blk_cell HZ1.out 1).trans rfl
      have c2 : w1.cell? ⟨w.heap.size, 2, none⟩ = some (.int .i64 g.start) := (blk_cell HZ1.out 2).trans rfl
      have c3 : w1.cell? ⟨w.heap.size, 3, none⟩ = some (.slice Ar g.rules.length cr) := (blk_cell HZ1.out 3).trans rfl
      clear hb1
      rw [HN.out]
      go_wp2_with fail
      go_ret
      exact ⟨rb HF.out, HB1.out⟩
    have d4 : decide (g.start < 0) = false := decide_eq_false k4
    by_cases k5 : (g.nonterms.length : Int) ≤ g.start
    · have HF := Aside0.mk (show validB g = false by
          unfold validB; simp only [Bool.and_eq_false_iff, decide_eq_false_iff_not]; omega)
      have d5 : decide ((g.nonterms.length : Int) ≤ g.start) = true := decide_eq_true k5
      go_enter Try.func18, Try.ntmps18
      go_wp2_with fail
      refine (named g _ (HM.out.below ((Below.refl w.heap.size w).alloc (Nat.le_refl _) (.cells #[.slice At g.terms.length ct, .slice An g.nonterms.length cn, .int .i64 g.start, .slice Ar g.rules.length cr] 25)) (by obtain ⟨m, hm⟩ := HM.out; exact World.block_lt_of_cell? w _ hm)) At ct An cn Ar cr (HG.out.below ((Below.refl w.heap.size w).alloc (Nat.le_refl _) (.cells #[.slice At g.terms.length ct, .slice An g.nonterms.length cn, .int .i64 g.start, .slice Ar g.rules.length cr] 25))) (by simp [maxLen]; omega)).mono ?_
      rintro e w1 ⟨rfl, hb1⟩
      have HB1 := Aside0.mk (((Below.refl w.heap.size w).alloc (Nat.le_refl _) (.cells #[.slice At g.terms.length ct, .slice An g.nonterms.length cn, .int .i64 g.start, .slice Ar g.rules.length cr] 25)).trans (hb1.mono (by simp)))
      have HZ1 := Aside0.mk (blk_below (blk_new w (.cells #[.slice At g.terms.length ct, .slice An g.nonterms.length cn, .int .i64 g.start, .slice Ar g.rules.length cr] 25)) hb1)
      have c0 : w1.cell? ⟨w.heap.size, 0, none⟩ = some (.slice At g.terms.length ct) := (blk_cell HZ1.out 0).trans rfl
      have c1 : w1.cell? ⟨w.heap.size, 1, none⟩ = some (.slice An g.nonterms.length cn) := (blk_cell HZ1.out 1).trans rfl
      have c2 : w1.cell? ⟨w.heap.size, 2, none⟩ = some (.int .i64 g.start) := (blk_cell HZ1.out 2).trans rfl
      have c3 : w1.cell? ⟨w.heap.size, 3, none⟩ = some (.slice Ar g.rules.length cr) := (blk_cell HZ1.out 3).trans rfl
      clear hb1
      rw [HN.out]
      go_wp2_with fail
      go_ret
      exact ⟨rb HF.out, HB1.out⟩
    have d5 : decide ((g.nonterms.length : Int) ≤ g.start) = false := decide_eq_false k5
    by_cases k6 : (g.rules.length : Int) < 1
    · have HF := Aside0.mk (show validB g = false by
          unfold validB; simp only [Bool.and_eq_false_iff, decide_eq_false_iff_not]; omega)
      have d6 : decide ((g.rules.length : Int) < 1) = true := decide_eq_true k6
      go_enter Try.func18, Try.ntmps18
      go_wp2_with fail
      refine (named g _ (HM.out.below ((Below.refl w.heap.size w).alloc (Nat.le_refl _) (.cells #[.slice At g.terms.length ct, .slice An g.nonterms.length cn, .int .i64 g.start, .slice Ar g.rules.length cr] 25)) (by obtain ⟨m, hm⟩ := HM.out; exact World.block_lt_of_cell? w _ hm)) At ct An cn Ar cr (HG.out.below ((Below.refl w.heap.size w).alloc (Nat.le_refl _) (.cells #[.slice At g.terms.length ct, .slice An g.nonterms.length cn, .int .i64 g.start, .slice Ar g.rules.length cr] 25))) (by simp [maxLen]; omega)).mono ?_
      rintro e w1 ⟨rfl, hb1⟩
      have HB1 := Aside0.mk (((Below.refl w.heap.size w).alloc (Nat.le_refl _) (.cells #[.slice At g.terms.length ct, .slice An g.nonterms.length cn, .int .i64 g.start, .slice Ar g.rules.length cr] 25)).trans (hb1.mono (by simp)))
      have HZ1 := Aside0.mk (blk_below (blk_new w (.cells #[.slice At g.terms.length ct, .slice An g.nonterms.length cn, .int .i64 g.start, .slice Ar g.rules.length cr] 25)) hb1)
      have c0 : w1.cell? ⟨w.heap.size, 0, none⟩ = some (.slice At g.terms.length ct) := (blk_cell HZ1.out 0).trans rfl
      have c1 : w1.cell? ⟨w.heap.size, 1, none⟩ = some (.slice An g.nonterms.length cn) := (blk_cell HZ1.out 1).trans rfl
      have c2 : w1.cell? ⟨w.heap.size, 2, none⟩ = some (.int .i64 g.start) := (blk_cell HZ1.out 2).trans rfl
      have c3 : w1.cell? ⟨w.heap.size, 3, none⟩ = some (.slice Ar g.rules.length cr) := (blk_cell HZ1.out 3).trans rfl
      clear hb1
      rw [HN.out]
      go_wp2_with fail
      go_ret
      exact ⟨rb HF.out, HB1.out⟩
    have d6 : decide ((g.rules.length : Int) < 1) = false := decide_eq_false k6
    by_cases k7 : 120 < (g.rules.length : Int)
    · have HF := Aside0.mk (show validB g = false by
          unfold validB; simp only [Bool.and_eq_false_iff, decide_eq_false_iff_not]; omega)
      have d7 : decide (120 < (g.rules.length : Int)) = true := decide_eq_true k7
      go_enter Try.func18, Try.ntmps18
      go_wp2_with fail
      refine (named g _ (HM.out.below ((Below.refl w.heap.size w).alloc (Nat.le_refl _) (.cells #[.slice At g.terms.length ct, .slice An g.nonterms.length cn, .int .i64 g.start, .slice Ar g.rules.length cr] 25)) (by obtain ⟨m, hm⟩ := HM.out; exact World.block_lt_of_cell? w _ hm)) At ct An cn Ar cr (HG.out.below ((Below.refl w.heap.size w).alloc (Nat.le_refl _) (.cells #[.slice At g.terms.length ct, .slice An g.nonterms.length cn, .int .i64 g.start, .slice Ar g.rules.length cr] 25))) (by simp [maxLen]; omega)).mono ?_
      rintro e w1 ⟨rfl, hb1⟩
      have HB1 := Aside0.mk (((Below.refl w.heap.size w).alloc (Nat.le_refl _) (.cells #[.slice At g.terms.length ct, .slice An g.nonterms.length cn, .int .i64 g.start, .slice Ar g.rules.length cr] 25)).trans (hb1.mono (by simp)))
      have HZ1 := Aside0.mk (blk_below (blk_new w (.cells #[.slice At g.terms.length ct, .slice An g.nonterms.length cn, .int .i64 g.start, .slice Ar g.rules.length cr] 25)) hb1)
      have c0 : w1.cell? ⟨w.heap.size, 0, none⟩ = some (.slice At g.terms.length ct) := (blk_cell HZ1.out 0).trans rfl
      have c1 : w1.cell? ⟨w.heap.size, 1, none⟩ = some (.slice An g.nonterms.length cn) := (blk_cell HZ1.out 1).trans rfl
      have c2 : w1.cell? ⟨w.heap.size, 2, none⟩ = some (.int .i64 g.start) := (blk_cell HZ1.out 2).trans rfl
      have c3 : w1.cell? ⟨w.heap.size, 3, none⟩ = some (.slice Ar g.rules.length cr) := (blk_cell HZ1.out 3).trans rfl
      clear hb1
      rw [HN.out]
      go_wp2_with fail
      go_ret
      exact ⟨rb HF.out, HB1.out⟩
    have d7 : decide (120 < (g.rules.length : Int)) = false := decide_eq_false k7
    go_enter Try.func18, Try.ntmps18
    go_wp2_with fail
    refine (named g _ (HM.out.below ((Below.refl w.heap.size w).alloc (Nat.le_refl _) (.cells #[.slice At g.terms.length ct, .slice An g.nonterms.length cn, .int .i64 g.start, .slice Ar g.rules.length cr] 25)) (by obtain ⟨m, hm⟩ := HM.out; exact World.block_lt_of_cell? w _ hm)) At ct An cn Ar cr (HG.out.below ((Below.refl w.heap.size w).alloc (Nat.le_refl _) (.cells #[.slice At g.terms.length ct, .slice An g.nonterms.length cn, .int .i64 g.start, .slice Ar g.rules.length cr] 25))) (by simp [maxLen]; omega)).mono ?_
    rintro e w1 ⟨rfl, hb1⟩
    have HB1 := Aside0.mk (((Below.refl w.heap.size w).alloc (Nat.le_refl _) (.cells #[.slice At g.terms.length ct, .slice An g.nonterms.length cn, .int .i64 g.start, .slice Ar g.rules.length cr] 25)).trans (hb1.mono (by simp)))
    have HZ1 := Aside0.mk (blk_below (blk_new w (.cells #[.slice At g.terms.length ct, .slice An g.nonterms.length cn, .int .i64 g.start, .slice Ar g.rules.length cr] 25)) hb1)
    have c0 : w1.cell? ⟨w.heap.size, 0, none⟩ = some (.slice At g.terms.length ct) := (blk_cell HZ1.out 0).trans rfl
    have c1 : w1.cell? ⟨w.heap.size, 1, none⟩ = some (.slice An g.nonterms.length cn) := (blk_cell HZ1.out 1).trans rfl
    have c2 : w1.cell? ⟨w.heap.size, 2, none⟩ = some (.int .i64 g.start) := (blk_cell HZ1.out 2).trans rfl
    have c3 : w1.cell? ⟨w.heap.size, 3, none⟩ = some (.slice Ar g.rules.length cr) := (blk_cell HZ1.out 3).trans rfl
    clear hb1
    rw [HN.out]
    go_wp2_with fail
    have hm : g.rules.length ≤ 9223372036854775807 := HG.out.rules.2.1
    clear c0 c1 c2 c3
    go_loopw [54] (fun i wr => ∃ k : Nat, i = .int .i64 k ∧ k ≤ g.rules.length ∧ Aside0 (∀ j, j < k → rulB g.terms.length g.nonterms.length (rdOf Rul.zero g.rules j) = true) ∧ Aside0 (wr.heap[w.heap.size]? = some (.cells #[.slice At g.terms.length ct, .slice An g.nonterms.length cn, .int .i64 g.start, .slice Ar g.rules.length cr] 25 (0, 0))) ∧ Aside0 (Below w.heap.size w wr)) (fun i _ => g.rules.length - (intOf i).toNat)
    case atStart => exact ⟨0, rfl, by omega, ⟨fun j hj => absurd hj (by omega)⟩, HZ1, HB1⟩
    case round =>
      clear HZ1 HB1
      obtain ⟨k, rfl, hk, HD, HZ, HB⟩ := hrel
      by_cases hlt : k < g.rules.length
      · obtain ⟨ad, A1, c1, e, h1, h2, h3, hl, hc⟩ := at_rul (Kd.C_below HG.out.rules HB.out) k hlt
        have c1' : wr.cell? ⟨w.heap.size, 1, none⟩ = some (.slice An g.nonterms.length cn) := (blk_cell HZ.out 1).trans rfl
        have hlz := blk_lt HZ.out
        have HMem := Aside0.mk (rdOf_mem Rul.zero g.rules k hlt)
        have HC := Aside0.mk hc
        have HL := Aside0.mk hl
        clear hc hl
        cases e
        generalize hrx : rdOf Rul.zero g.rules k = rx at *
        have HRX := Aside0.mk hrx
        clear hrx
        by_cases q0 : rx.head < 0
        · skip
          have HF := Aside0.mk (show validB g = false by
            have hf : rulB g.terms.length g.nonterms.length rx = false := by
              unfold rulB; simp only [Bool.and_eq_false_iff, decide_eq_false_iff_not]; omega
            unfold validB; rw [Bool.and_eq_false_iff]; right; rw [List.all_eq_false]; exact ⟨rx, HMem.out, by rw [hf]; simp⟩)
          have e0 : decide (rx.head < 0) = true := decide_eq_true q0
          go_wp2_with fail
          go_ret
          exact ⟨rb HF.out, HB.out.alloc HB.out.size _⟩
        have e0 : decide (rx.head < 0) = false := decide_eq_false q0
        by_cases q1 : (g.nonterms.length : Int) ≤ rx.head
        · skip
          have HF := Aside0.mk (show validB g = false by
            have hf : rulB g.terms.length g.nonterms.length rx = false := by
              unfold rulB; simp only [Bool.and_eq_false_iff, decide_eq_false_iff_not]; omega
            unfold validB; rw [Bool.and_eq_false_iff]; right; rw [List.all_eq_false]; exact ⟨rx, HMem.out, by rw [hf]; simp⟩)
          have e1 : decide ((g.nonterms.length : Int) ≤ rx.head) = true := decide_eq_true q1
          go_wp2_with fail
          go_ret
          exact ⟨rb HF.out, HB.out.alloc HB.out.size _⟩
        have e1 : decide ((g.nonterms.length : Int) ≤ rx.head) = false := decide_eq_false q1
        by_cases q2 : 12 < (rx.body.length : Int)
        · skip
          have HF := Aside0.mk (show validB g = false by
            have hf : rulB g.terms.length g.nonterms.length rx = false := by
              unfold rulB; simp only [Bool.and_eq_false_iff, decide_eq_false_iff_not]; omega
            unfold validB; rw [Bool.and_eq_false_iff]; right; rw [List.all_eq_false]; exact ⟨rx, HMem.out, by rw [hf]; simp⟩)
          have e2 : decide (12 < (rx.body.length : Int)) = true := decide_eq_true q2
          go_wp2_with fail
          go_ret
          exact ⟨rb HF.out, HB.out.alloc HB.out.size _⟩
        have e2 : decide (12 < (rx.body.length : Int)) = false := decide_eq_false q2
        by_cases q3 : rx.price < 0
        · skip
          have HF := Aside0.mk (show validB g = false by
            have hf : rulB g.terms.length g.nonterms.length rx = false := by
              unfold rulB; simp only [Bool.and_eq_false_iff, decide_eq_false_iff_not]; omega
            unfold validB; rw [Bool.and_eq_false_iff]; right; rw [List.all_eq_false]; exact ⟨rx, HMem.out, by rw [hf]; simp⟩)
          have e3 : decide (rx.price < 0) = true := decide_eq_true q3
          go_wp2_with fail
          go_ret
          exact ⟨rb HF.out, HB.out.alloc HB.out.size _⟩
        have e3 : decide (rx.price < 0) = false := decide_eq_false q3
        by_cases q4 : 1000 < rx.price
        · skip
          have HF := Aside0.mk (show validB g = false by
            have hf : rulB g.terms.length g.nonterms.length rx = false := by
              unfold rulB; simp only [Bool.and_eq_false_iff, decide_eq_false_iff_not]; omega
            unfold validB; rw [Bool.and_eq_false_iff]; right; rw [List.all_eq_false]; exact ⟨rx, HMem.out, by rw [hf]; simp⟩)
          have e4 : decide (1000 < rx.price) = true := decide_eq_true q4
          go_wp2_with fail
          go_ret
          exact ⟨rb HF.out, HB.out.alloc HB.out.size _⟩
        have e4 : decide (1000 < rx.price) = false := decide_eq_false q4
        have HOK := Aside0.mk (show rulB g.terms.length g.nonterms.length rx = !(rx.body.any (symBad g.terms.length g.nonterms.length)) by
            unfold rulB; rw [decide_eq_true (by omega), decide_eq_true (by omega), decide_eq_true (by omega), decide_eq_true (by omega), decide_eq_true (by omega)]; rfl)
        have hcf : ∀ args W, Sem.run Try.prog (callFunc 34 args) W = .ok (.enter 34 args) W := fun _ _ => rfl
        go_wp2_with fail
        have HZ2 := Aside0.mk (blk_alloc HZ.out (.cells #[.int .i64 rx.head, .slice A1 rx.body.length c1, .int .i64 rx.price] 42))
        refine (containsFunc A1 c1 rx.body 34 #[.pointer (some ⟨w.heap.size, 0, none⟩)] (symBad g.terms.length g.nonterms.length) _ (Kd.C_alloc HC.out _) HL.out ?_ hcf).mono ?_
        · intro m x hx
          have c0 : ((wr.alloc (.cells #[.int .i64 rx.head, .slice A1 rx.body.length c1, .int .i64 rx.price] 42)).drewN m).cell? ⟨w.heap.size, 0, none⟩ = some (.slice At g.terms.length ct) := (blk_cell (blk_drewN HZ2.out m) 0).trans rfl
          have c1 : ((wr.alloc (.cells #[.int .i64 rx.head, .slice A1 rx.body.length c1, .int .i64 rx.price] 42)).drewN m).cell? ⟨w.heap.size, 1, none⟩ = some (.slice An g.nonterms.length cn) := (blk_cell (blk_drewN HZ2.out m) 1).trans rfl
          exact valid1 x w.heap.size _ _ _ ct cn At An c0 c1 (by omega)
        rintro e w' ⟨rfl, ⟨m, rfl⟩⟩
        have HB2 := Aside0.mk (pw_below_drewN (HB.out.alloc HB.out.size (.cells #[.int .i64 rx.head, .slice A1 rx.body.length c1, .int .i64 rx.price] 42)) m) 
        cases ha : rx.body.any (symBad g.terms.length g.nonterms.length) with
        | true =>
          have HF := Aside0.mk (show validB g = false by
            have hf : rulB g.terms.length g.nonterms.length rx = false := by rw [HOK.out, ha]; rfl
            unfold validB; rw [Bool.and_eq_false_iff]; right; rw [List.all_eq_false]; exact ⟨rx, HMem.out, by rw [hf]; simp⟩)
          clear ha
          go_wp2_with fail
          go_ret
          exact ⟨rb HF.out, HB2.out⟩
        | false =>
          have HD2 := Aside0.mk (show ∀ j, j < k + 1 → rulB g.terms.length g.nonterms.length (rdOf Rul.zero g.rules j) = true from fun j hj => by
            rcases Nat.lt_succ_iff_lt_or_eq.1 hj with h | rfl
            · exact HD.out j h
            · rw [HRX.out, HOK.out, ha]; rfl)
          have HZ3 := Aside0.mk (blk_drewN HZ2.out m)
          clear ha HZ2 HZ HD HOK
          go_wp2_with fail
          go_roundw
          case rel => exact ⟨k + 1, by simp, by omega, HD2, HZ3, HB2⟩
          case measure => simp [intOf]; omega
      · obtain rfl : k = g.rules.length := by omega
        have HF := Aside0.mk (show validB g = true by
          unfold validB
          rw [HNk, decide_eq_true (by omega), decide_eq_true (by omega), decide_eq_true (by omega), decide_eq_true (by omega), decide_eq_true (by omega), decide_eq_true (by omega), decide_eq_true (by omega)]
          simp only [Bool.true_and, List.all_eq_true]
          intro r hr
          obtain ⟨j, hj, rfl⟩ := List.getElem_of_mem hr
          have := HD.out j hj
          rwa [rdOf_nat Rul.zero g.rules j hj] at this)
        go_wp2_with fail
        go_ret
        exact ⟨rb HF.out, HB.out⟩
end Go.Proofs.Ytadednkdhblpfaa.Val
