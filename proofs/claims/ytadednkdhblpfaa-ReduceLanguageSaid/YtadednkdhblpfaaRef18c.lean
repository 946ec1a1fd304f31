/- emendateref18.Valid, walked. -/
import Derived.Test.YtadednkdhblpfaaRef18b
import Derived.Test.YtadednkdhblpfaaValid
namespace Go.Proofs.Ytadednkdhblpfaa.Ref
open Go.RowKit Go.Proofs.YtadednkdhblpfaaW.PrintWords Go.Proofs.YtadednkdhblpfaaW.PrintLast Go.Proofs.YtadednkdhblpfaaW.PrintMore Go.Proofs.Ytadednkdhblpfaa.B Go.Proofs.Ytadednkdhblpfaa.Val
set_option linter.unusedVariables false
set_option linter.unusedSimpArgs false

set_option maxHeartbeats 4000000 in
set_option maxRecDepth 100000 in
theorem valid (g : Gr) (w : World)
    (At : Option Addr) (ct : Nat) (An : Option Addr) (cn : Nat) (Ar : Option Addr) (cr : Nat) (hg : GrC w At ct An cn Ar cr g) :
    Calls Try.prog 14 #[.agg #[.slice At g.terms.length ct, .slice An g.nonterms.length cn, .int .i64 g.start, .slice Ar g.rules.length cr]] w
      fun e w' => e = .returned (.bool (validB g)) ∧ Below w.heap.size w w' := by
  have HG := Aside0.mk hg
  clear hg
  by_cases k0 : 120 < (g.terms.length : Int)
  · have HF := Aside0.mk (show validB g = false by
          unfold validB; simp only [Bool.and_eq_false_iff, decide_eq_false_iff_not]; omega)
    have d0 : decide (120 < (g.terms.length : Int)) = true := decide_eq_true k0
    go_enter Try.func14, Try.ntmps14
    go_wp2_with fail
    go_ret
    exact ⟨rb HF.out, (Below.refl _ _).alloc (Nat.le_refl _) _⟩
  have d0 : decide (120 < (g.terms.length : Int)) = false := decide_eq_false k0
  by_cases k1 : (g.nonterms.length : Int) < 1
  · have HF := Aside0.mk (show validB g = false by
          unfold validB; simp only [Bool.and_eq_false_iff, decide_eq_false_iff_not]; omega)
    have d1 : decide ((g.nonterms.length : Int) < 1) = true := decide_eq_true k1
    go_enter Try.func14, Try.ntmps14
    go_wp2_with fail
    go_ret
    exact ⟨rb HF.out, (Below.refl _ _).alloc (Nat.le_refl _) _⟩
  have d1 : decide ((g.nonterms.length : Int) < 1) = false := decide_eq_false k1
  by_cases k2 : 120 < (g.nonterms.length : Int)
  · have HF := Aside0.mk (show validB g = false by
          unfold validB; simp only [Bool.and_eq_false_iff, decide_eq_false_iff_not]; omega)
    have d2 : decide (120 < (g.nonterms.length : Int)) = true := decide_eq_true k2
    go_enter Try.func14, Try.ntmps14
    go_wp2_with fail
    go_ret
    exact ⟨rb HF.out, (Below.refl _ _).alloc (Nat.le_refl _) _⟩
  have d2 : decide (120 < (g.nonterms.length : Int)) = false := decide_eq_false k2
  by_cases k3 : (g.rules.length : Int) < 1
  · have HF := Aside0.mk (show validB g = false by
          unfold validB; simp only [Bool.and_eq_false_iff, decide_eq_false_iff_not]; omega)
    have d3 : decide ((g.rules.length : Int) < 1) = true := decide_eq_true k3
    go_enter Try.func14, Try.ntmps14
    go_wp2_with fail
    go_ret
    exact ⟨rb HF.out, (Below.refl _ _).alloc (Nat.le_refl _) _⟩
  have d3 : decide ((g.rules.length : Int) < 1) = false := decide_eq_false k3
  by_cases k4 : 120 < (g.rules.length : Int)
  · have HF := Aside0.mk (show validB g = false by
          unfold validB; simp only [Bool.and_eq_false_iff, decide_eq_false_iff_not]; omega)
    have d4 : decide (120 < (g.rules.length : Int)) = true := decide_eq_true k4
    go_enter Try.func14, Try.ntmps14
    go_wp2_with fail
    go_ret
    exact ⟨rb HF.out, (Below.refl _ _).alloc (Nat.le_refl _) _⟩
  have d4 : decide (120 < (g.rules.length : Int)) = false := decide_eq_false k4
  by_cases k5 : g.start < 0
  · have HF := Aside0.mk (show validB g = false by
          unfold validB; simp only [Bool.and_eq_false_iff, decide_eq_false_iff_not]; omega)
    have d5 : decide (g.start < 0) = true := decide_eq_true k5
    go_enter Try.func14, Try.ntmps14
    go_wp2_with fail
    go_ret
    exact ⟨rb HF.out, (Below.refl _ _).alloc (Nat.le_refl _) _⟩
  have d5 : decide (g.start < 0) = false := decide_eq_false k5
  by_cases k6 : (g.nonterms.length : Int) ≤ g.start
  · have HF := Aside0.mk (show validB g = false by
          unfold validB; simp only [Bool.and_eq_false_iff, decide_eq_false_iff_not]; omega)
    have d6 : decide ((g.nonterms.length : Int) ≤ g.start) = true := decide_eq_true k6
    go_enter Try.func14, Try.ntmps14
    go_wp2_with fail
    go_ret
    exact ⟨rb HF.out, (Below.refl _ _).alloc (Nat.le_refl _) _⟩
  have d6 : decide ((g.nonterms.length : Int) ≤ g.start) = false := decide_eq_false k6
  cases hn : namesOk (g.terms ++ g.nonterms) with
  | false =>
    have HF := Aside0.mk (show validB g = false by unfold validB; rw [hn]; simp)
    have HN := Aside0.mk hn
    clear hn
    go_enter Try.func14, Try.ntmps14
    go_wp2_with fail
    refine (names At ct g.terms An cn g.nonterms _ (Kd.C_alloc HG.out.terms _) HG.out.lt (Kd.C_alloc HG.out.nonterms _) HG.out.ln (by omega) (by omega)).mono ?_
    rintro e w1 ⟨rfl, hb1⟩
    have HB1 := Aside0.mk (((Below.refl w.heap.size w).alloc (Nat.le_refl _) (.cells #[.slice At g.terms.length ct, .slice An g.nonterms.length cn, .int .i64 g.start, .slice Ar g.rules.length cr] 25)).trans (hb1.mono (by simp)))
    have HZ1 := Aside0.mk (blk_below (blk_new w (.cells #[.slice At g.terms.length ct, .slice An g.nonterms.length cn, .int .i64 g.start, .slice Ar g.rules.length cr] 25)) hb1)
    have z3 : w1.cell? ⟨w.heap.size, 3, none⟩ = some (.slice Ar g.rules.length cr) := (blk_cell HZ1.out 3).trans rfl
    clear hb1
    rw [HN.out]
    go_wp2_with fail
    go_ret
    exact ⟨rb HF.out, HB1.out⟩
  | true =>
    have HN := Aside0.mk hn
    clear hn
    go_enter Try.func14, Try.ntmps14
    go_wp2_with fail
    refine (names At ct g.terms An cn g.nonterms _ (Kd.C_alloc HG.out.terms _) HG.out.lt (Kd.C_alloc HG.out.nonterms _) HG.out.ln (by omega) (by omega)).mono ?_
    rintro e w1 ⟨rfl, hb1⟩
    have HB1 := Aside0.mk (((Below.refl w.heap.size w).alloc (Nat.le_refl _) (.cells #[.slice At g.terms.length ct, .slice An g.nonterms.length cn, .int .i64 g.start, .slice Ar g.rules.length cr] 25)).trans (hb1.mono (by simp)))
    have HZ1 := Aside0.mk (blk_below (blk_new w (.cells #[.slice At g.terms.length ct, .slice An g.nonterms.length cn, .int .i64 g.start, .slice Ar g.rules.length cr] 25)) hb1)
    have z3 : w1.cell? ⟨w.heap.size, 3, none⟩ = some (.slice Ar g.rules.length cr) := (blk_cell HZ1.out 3).trans rfl
    clear hb1
    rw [HN.out]
    go_wp2_with fail
    clear z3
    go_loopw [3] (fun i wr => ∃ k : Nat, i = .int .i64 k ∧ k ≤ g.rules.length ∧ Aside0 (∀ j, j < k → rulB g.terms.length g.nonterms.length (rdOf Rul.zero g.rules j) = true) ∧ Aside0 (wr.heap[w.heap.size]? = some (.cells #[.slice At g.terms.length ct, .slice An g.nonterms.length cn, .int .i64 g.start, .slice Ar g.rules.length cr] 25 (0, 0))) ∧ Aside0 (Below w.heap.size w wr)) (fun i _ => g.rules.length - (intOf i).toNat)
    case atStart => exact ⟨0, rfl, by omega, ⟨fun j hj => absurd hj (by omega)⟩, HZ1, HB1⟩
    case round =>
      clear HZ1 HB1
      obtain ⟨k, rfl, hk, HD, HZ, HB⟩ := hrel
      obtain ⟨wo, rfl⟩ : ∃ wo : World, wo = wr := ⟨_, rfl⟩
      have z3 : wo.cell? ⟨w.heap.size, 3, none⟩ = some (.slice Ar g.rules.length cr) := (blk_cell HZ.out 3).trans rfl
      by_cases hlt : k < g.rules.length
      · obtain ⟨ad, A1, c1, e, h1, h2, h3, hl, hc⟩ := at_rul (Kd.C_below HG.out.rules HB.out) k hlt
        have hd : decide ((k : Int) < (g.rules.length : Int)) = true := decide_eq_true (by omega)
        have z1 : wo.cell? ⟨w.heap.size, 1, none⟩ = some (.slice An g.nonterms.length cn) := (blk_cell HZ.out 1).trans rfl
        have lz := blk_lt HZ.out
        have HMem := Aside0.mk (rdOf_mem Rul.zero g.rules k hlt)
        have HC := Aside0.mk hc
        have HL := Aside0.mk hl
        clear hc hl
        cases e
        generalize hrx : rdOf Rul.zero g.rules k = rx at *
        have HRX := Aside0.mk hrx
        clear hrx
        by_cases q0 : rx.head < 0
        · skip
          have HF := Aside0.mk (show validB g = false by
            have hf : rulB g.terms.length g.nonterms.length rx = false := by
              unfold rulB; simp only [Bool.and_eq_false_iff, decide_eq_false_iff_not]; omega
            unfold validB; rw [Bool.and_eq_false_iff]; right; rw [List.all_eq_false]; exact ⟨rx, HMem.out, by rw [hf]; simp⟩)
          have e0 : decide (rx.head < 0) = true := decide_eq_true q0
          go_wp2_with fail
          go_ret
          exact ⟨rb HF.out, HB.out.alloc HB.out.size _⟩
        have e0 : decide (rx.head < 0) = false := decide_eq_false q0
        by_cases q1 : (g.nonterms.length : Int) ≤ rx.head
        · skip
          have HF := Aside0.mk (show validB g = false by
            have hf : rulB g.terms.length g.nonterms.length rx = false := by
              unfold rulB; simp only [Bool.and_eq_false_iff, decide_eq_false_iff_not]; omega
            unfold validB; rw [Bool.and_eq_false_iff]; right; rw [List.all_eq_false]; exact ⟨rx, HMem.out, by rw [hf]; simp⟩)
          have e1 : decide ((g.nonterms.length : Int) ≤ rx.head) = true := decide_eq_true q1
          go_wp2_with fail
          go_ret
          exact ⟨rb HF.out, HB.out.alloc HB.out.size _⟩
        have e1 : decide ((g.nonterms.length : Int) ≤ rx.head) = false := decide_eq_false q1
        by_cases q2 : 12 < (rx.body.length : Int)
        · skip
          have HF := Aside0.mk (show validB g = false by
            have hf : rulB g.terms.length g.nonterms.length rx = false := by
              unfold rulB; simp only [Bool.and_eq_false_iff, decide_eq_false_iff_not]; omega
            unfold validB; rw [Bool.and_eq_false_iff]; right; rw [List.all_eq_false]; exact ⟨rx, HMem.out, by rw [hf]; simp⟩)
          have e2 : decide (12 < (rx.body.length : Int)) = true := decide_eq_true q2
          go_wp2_with fail
          go_ret
          exact ⟨rb HF.out, HB.out.alloc HB.out.size _⟩
        have e2 : decide (12 < (rx.body.length : Int)) = false := decide_eq_false q2
        by_cases q3 : rx.price < 0
        · skip
          have HF := Aside0.mk (show validB g = false by
            have hf : rulB g.terms.length g.nonterms.length rx = false := by
              unfold rulB; simp only [Bool.and_eq_false_iff, decide_eq_false_iff_not]; omega
            unfold validB; rw [Bool.and_eq_false_iff]; right; rw [List.all_eq_false]; exact ⟨rx, HMem.out, by rw [hf]; simp⟩)
          have e3 : decide (rx.price < 0) = true := decide_eq_true q3
          go_wp2_with fail
          go_ret
          exact ⟨rb HF.out, HB.out.alloc HB.out.size _⟩
        have e3 : decide (rx.price < 0) = false := decide_eq_false q3
        by_cases q4 : 1000 < rx.price
        · skip
          have HF := Aside0.mk (show validB g = false by
            have hf : rulB g.terms.length g.nonterms.length rx = false := by
              unfold rulB; simp only [Bool.and_eq_false_iff, decide_eq_false_iff_not]; omega
            unfold validB; rw [Bool.and_eq_false_iff]; right; rw [List.all_eq_false]; exact ⟨rx, HMem.out, by rw [hf]; simp⟩)
          have e4 : decide (1000 < rx.price) = true := decide_eq_true q4
          go_wp2_with fail
          go_ret
          exact ⟨rb HF.out, HB.out.alloc HB.out.size _⟩
        have e4 : decide (1000 < rx.price) = false := decide_eq_false q4
        have hbm : rx.body.length ≤ 12 := by omega
        have HOK := Aside0.mk (show rulB g.terms.length g.nonterms.length rx = !(rx.body.any (symBad g.terms.length g.nonterms.length)) by
            unfold rulB; rw [decide_eq_true (by omega), decide_eq_true (by omega), decide_eq_true (by omega), decide_eq_true (by omega), decide_eq_true (by omega)]; rfl)
        go_wp2_with fail
        generalize hW : wo.alloc (.cells #[.int .i64 rx.head, .slice A1 rx.body.length c1, .int .i64 rx.price] 42) = W1
        have HZ2 := Aside0.mk (show W1.heap[w.heap.size]? = some (.cells #[.slice At g.terms.length ct, .slice An g.nonterms.length cn, .int .i64 g.start, .slice (some ad) g.rules.length cr] 25 (0, 0)) by rw [← hW]; exact blk_alloc HZ.out _)
        have HR2 := Aside0.mk (show W1.heap[wo.heap.size]? = some (.cells #[.int .i64 rx.head, .slice A1 rx.body.length c1, .int .i64 rx.price] 42 (0, 0)) by rw [← hW]; exact blk_new _ _)
        have HC2 := Aside0.mk (show Kd.C (Kd.int .i64) W1 A1 rx.body.length rx.body by rw [← hW]; exact Kd.C_alloc HC.out _)
        have HB2 := Aside0.mk (show Below w.heap.size w W1 by rw [← hW]; exact HB.out.alloc HB.out.size _)
        have y1 : W1.cell? ⟨wo.heap.size, 1, none⟩ = some (.slice A1 rx.body.length c1) := (blk_cell HR2.out 1).trans rfl
        have y2 : W1.cell? ⟨w.heap.size, 0, none⟩ = some (.slice At g.terms.length ct) := (blk_cell HZ2.out 0).trans rfl
        have y3 : W1.cell? ⟨w.heap.size, 1, none⟩ = some (.slice An g.nonterms.length cn) := (blk_cell HZ2.out 1).trans rfl
        clear hW h1 h2 h3 z1 z3 lz HZ HC HB
        go_loopw [5] (fun i wr => ∃ j : Nat, i = .int .i64 j ∧ j ≤ rx.body.length ∧ Aside0 (∀ q : Nat, q < j → symBad g.terms.length g.nonterms.length (rd rx.body q) = false) ∧ Drawn0 W1 wr) (fun i _ => rx.body.length - (intOf i).toNat)
        case atStart => exact ⟨0, rfl, Nat.zero_le _, ⟨fun q hq => absurd hq (by omega)⟩, Drawn0.refl _⟩
        case round =>
          obtain ⟨j, rfl, hj, HS, ⟨m, rfl⟩⟩ := hrel
          by_cases hlt2 : j < rx.body.length
          · obtain ⟨ad1, e, hx1⟩ := at_int HC2.out j hlt2
            have hd2 : decide ((j : Int) < (rx.body.length : Int)) = true := decide_eq_true (by omega)
            have q9 : (j : Int) < (rx.body.length : Int) := by omega
            have HMx := Aside0.mk (rd_mem rx.body j hlt2)
            cases e
            by_cases p0 : (g.terms.length : Int) ≤ rd rx.body j
            · have HF := Aside0.mk (show validB g = false by
                have hf : rulB g.terms.length g.nonterms.length rx = false := by
                  rw [HOK.out, Bool.not_eq_false', List.any_eq_true]; exact ⟨_, HMx.out, by unfold symBad; rw [decide_eq_true (by omega)]; rfl⟩
                unfold validB; rw [Bool.and_eq_false_iff]; right; rw [List.all_eq_false]; exact ⟨rx, HMem.out, by rw [hf]; simp⟩)
              have d20 : decide ((g.terms.length : Int) ≤ rd rx.body j) = true := decide_eq_true p0
              go_wp2_with fail
              go_quiet (fail)
              go_wp2_with fail
              go_ret
              exact ⟨rb HF.out, by repeat (first | exact HB2.out | apply pw_below_drewN | apply below_drew1)⟩
            have d20 : decide ((g.terms.length : Int) ≤ rd rx.body j) = false := decide_eq_false p0
            by_cases p1 : rd rx.body j < -(g.nonterms.length : Int)
            · have HF := Aside0.mk (show validB g = false by
                have hf : rulB g.terms.length g.nonterms.length rx = false := by
                  rw [HOK.out, Bool.not_eq_false', List.any_eq_true]; exact ⟨_, HMx.out, by unfold symBad; rw [decide_eq_false (by omega), decide_eq_true p1]; rfl⟩
                unfold validB; rw [Bool.and_eq_false_iff]; right; rw [List.all_eq_false]; exact ⟨rx, HMem.out, by rw [hf]; simp⟩)
              have d21 : decide (rd rx.body j < -(g.nonterms.length : Int)) = true := decide_eq_true p1
              go_wp2_with fail
              go_quiet (fail)
              go_wp2_with fail
              go_ret
              exact ⟨rb HF.out, by repeat (first | exact HB2.out | apply pw_below_drewN | apply below_drew1)⟩
            have d21 : decide (rd rx.body j < -(g.nonterms.length : Int)) = false := decide_eq_false p1
            have HS2 := Aside0.mk (show ∀ q : Nat, q < j + 1 → symBad g.terms.length g.nonterms.length (rd rx.body q) = false from fun q hq => by
              rcases Nat.lt_succ_iff_lt_or_eq.1 hq with h | rfl
              · exact HS.out q h
              · unfold symBad; rw [decide_eq_false (by omega), decide_eq_false p1]; rfl)
            clear HS
            go_wp2_with fail
            go_quiet (fail)
            go_wp2_with fail
            go_roundw
            case rel => exact ⟨j + 1, by simp, by omega, HS2, (by repeat (first | exact Drawn0.refl _ | apply Drawn0.step))⟩
            case measure => simp [intOf]; omega
          · obtain rfl : j = rx.body.length := by omega
            have HD2 := Aside0.mk (show ∀ q, q < k + 1 → rulB g.terms.length g.nonterms.length (rdOf Rul.zero g.rules q) = true from fun q hq => by
              rcases Nat.lt_succ_iff_lt_or_eq.1 hq with h | rfl
              · exact HD.out q h
              · rw [HRX.out, HOK.out, Bool.not_eq_true', List.any_eq_false]
                intro x hx
                obtain ⟨p, hp, rfl⟩ := List.getElem_of_mem hx
                have := HS.out p hp
                rw [rd_nat _ _ hp] at this
                rw [this]; simp)
            have HZ3 := Aside0.mk (blk_drewN HZ2.out m)
            have HB3 := Aside0.mk (pw_below_drewN HB2.out m)
            clear HD HS HZ2 HB2 HOK
            go_wp2_with fail
            go_roundw
            case rel => exact ⟨k + 1, by simp, by omega, HD2, HZ3, HB3⟩
            case measure => simp [intOf]; omega
      · obtain rfl : k = g.rules.length := by omega
        have HF := Aside0.mk (show validB g = true by
          unfold validB
          rw [HN.out, decide_eq_true (by omega), decide_eq_true (by omega), decide_eq_true (by omega), decide_eq_true (by omega), decide_eq_true (by omega), decide_eq_true (by omega), decide_eq_true (by omega)]
          simp only [Bool.true_and, List.all_eq_true]
          intro r hr
          obtain ⟨j, hj, rfl⟩ := List.getElem_of_mem hr
          have := HD.out j hj
          rwa [rdOf_nat Rul.zero g.rules j hj] at this)
        go_wp2_with fail
        go_ret
        exact ⟨rb HF.out, HB.out⟩
end Go.Proofs.Ytadednkdhblpfaa.Ref
