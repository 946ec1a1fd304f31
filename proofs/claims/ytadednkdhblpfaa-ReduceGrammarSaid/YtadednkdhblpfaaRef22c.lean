/- emendateref22.Useful, walked. -/
import Derived.Test.YtadednkdhblpfaaRef22b
namespace Go.Proofs.Ytadednkdhblpfaa.Ref
open Go.RowKit Go.Proofs.YtadednkdhblpfaaW.PrintWords Go.Proofs.YtadednkdhblpfaaW.PrintLast Go.Proofs.YtadednkdhblpfaaW.PrintMore Go.Proofs.Ytadednkdhblpfaa.B Go.Proofs.Ytadednkdhblpfaa.Val Go.Proofs.Ytadednkdhblpfaa.Ana Go.Proofs.Ytadednkdhblpfaa.Red
set_option linter.unusedVariables false
set_option linter.unusedSimpArgs false

/-- the list's block is the first that w1 has not -/
structure UM (w1 wr : World) (out : List Bool) : Prop where
  a : wr.heap[w1.heap.size]? = some (.cells (out.map Value.bool).toArray 4 (0, 0))
  b : Below w1.heap.size w1 wr
theorem UM.below {w1 wr w2 : World} {out : List Bool} (h : UM w1 wr out) (k : Below wr.heap.size wr w2) : UM w1 w2 out := ⟨blk_below h.a k, h.b.trans (k.mono h.b.size)⟩
theorem UM.put {w1 wr : World} {out : List Bool} (h : UM w1 wr out) (i : Nat) (b : Bool) : UM w1 (wr.setCell ⟨w1.heap.size, i, none⟩ (.bool b)) (out.set i b) :=
  ⟨by rw [← bools_set]; exact blk_set h.a i _, h.b.setCell (by simp) _⟩

set_option maxHeartbeats 4000000 in
set_option maxRecDepth 100000 in
theorem useful (g : Gr) (w : World)
    (At : Option Addr) (ct : Nat) (An : Option Addr) (cn : Nat) (Ar : Option Addr) (cr : Nat) (hg : GrC w At ct An cn Ar cr g)
    (hr : ∀ r ∈ g.rules, RulOk g.nonterms.length r) (hs : 0 ≤ g.start ∧ g.start < g.nonterms.length) (hn : g.nonterms.length ≤ 140737488351232) :
    Calls Try.prog 23 #[.agg #[.slice At g.terms.length ct, .slice An g.nonterms.length cn, .int .i64 g.start, .slice Ar g.rules.length cr]] w
      (BoolsPost w g.nonterms.length (UsefulOut g (prL g))) := by
  have HG := Aside0.mk hg
  have HR := Aside0.mk hr
  have hm : g.rules.length ≤ 9223372036854775807 := hg.rules.2.1
  clear hg hr
  have hmk := print_make_of (P := Try.prog) 36 4 (.bool false) 1 Try.underlying36 info_bool rfl (by omega) g.nonterms.length (by omega)
  have hget : (madeCells #[.bool false] g.nonterms.length)[g.start.toNat]? = some (.bool false) := by
    have : g.start.toNat < g.nonterms.length := by omega
    rw [made_falses]; simp [this]
  obtain ⟨W, hW⟩ : ∃ W, w.alloc (.cells #[.slice At g.terms.length ct, .slice An g.nonterms.length cn, .int .i64 g.start, .slice Ar g.rules.length cr] 25) = W := ⟨_, rfl⟩
  have HZ := Aside0.mk (show W.heap[w.heap.size]? = some (.cells #[.slice At g.terms.length ct, .slice An g.nonterms.length cn, .int .i64 g.start, .slice Ar g.rules.length cr] 25 (0, 0)) by rw [← hW]; exact blk_new _ _)
  have HB := Aside0.mk (show Below w.heap.size w W by rw [← hW]; exact (Below.refl _ _).alloc (Nat.le_refl _) _)
  have z0 : W.cell? ⟨w.heap.size, 0, none⟩ = some (.slice At g.terms.length ct) := (blk_cell HZ.out 0).trans rfl
  have z1 : W.cell? ⟨w.heap.size, 1, none⟩ = some (.slice An g.nonterms.length cn) := (blk_cell HZ.out 1).trans rfl
  have z2 : W.cell? ⟨w.heap.size, 2, none⟩ = some (.int .i64 g.start) := (blk_cell HZ.out 2).trans rfl
  have z3 : W.cell? ⟨w.heap.size, 3, none⟩ = some (.slice Ar g.rules.length cr) := (blk_cell HZ.out 3).trans rfl
  go_enter Try.func23, Try.ntmps23
  go_wp2_with fail
  clear hW
  refine (productive g W At ct An cn Ar cr (HG.out.below HB.out) HR.out hn).mono ?_
  rintro e w1 ⟨Ap, cp, pr, rfl, hcp, hpl, ho, hpR, hpC, hb1⟩
  obtain rfl : pr = prL g := HeadsOut.eq ho
  have HCP := Aside0.mk hcp
  have HPL := Aside0.mk hpl
  have HPC := Aside0.mk hpC
  have HB1 := Aside0.mk (HB.out.trans (hb1.mono HB.out.size))
  have HZ1 := Aside0.mk (blk_below HZ.out hb1)
  have HBW := Aside0.mk (show w.heap.size + 1 ≤ w1.heap.size by have h1 := blk_lt HZ1.out; omega)
  clear hcp hpl ho hpR hpC hb1 z0 z1 z2 z3 HZ
  generalize hpr : prL g = pr at *
  have y1 : w1.cell? ⟨w.heap.size, 1, none⟩ = some (.slice An g.nonterms.length cn) := (blk_cell HZ1.out 1).trans rfl
  have y2 : w1.cell? ⟨w.heap.size, 2, none⟩ = some (.int .i64 g.start) := (blk_cell HZ1.out 2).trans rfl
  have lz := blk_lt HZ1.out
  obtain ⟨W0, hW0⟩ : ∃ W0, w1.alloc (.cells ((madeCells #[.bool false] g.nonterms.length).setIfInBounds g.start.toNat (.bool true)) 4) = W0 := ⟨_, rfl⟩
  have HM0 := Aside0.mk (show UM w1 W0 ((List.replicate g.nonterms.length false).set g.start.toNat true) by
    rw [← hW0]
    refine ⟨?_, (Below.refl _ _).alloc (Nat.le_refl _) _⟩
    have := blk_new w1 (.cells ((madeCells #[.bool false] g.nonterms.length).setIfInBounds g.start.toNat (.bool true)) 4)
    rw [made_falses, bools_set] at this
    rw [made_falses, bools_set]
    exact this)
  have HI0 := Aside0.mk (show UInv g pr ((List.replicate g.nonterms.length false).set g.start.toNat true) by
    have hst : ((g.start.toNat : Nat) : Int) = g.start := by omega
    refine ⟨by simp, ?_, ?_⟩
    · have := rdOf_set false (List.replicate g.nonterms.length false) g.start.toNat g.start.toNat true (by simp; omega)
      rw [if_pos rfl, hst] at this
      exact this
    · intro k hk h
      rw [rdOf_set false _ _ k true (by simp; omega)] at h
      by_cases e : g.start.toNat = k
      · have := UP.start (g := g) (pr := pr)
        rwa [show (k : Int) = g.start by omega]
      · rw [if_neg e] at h
        simp [rdOf, List.getD_eq_getElem?_getD, hk] at h)
  go_wp2_with fail
  clear hW0 hget hmk y1 y2 lz
  have HPR := Aside0.mk hpr
  clear hpr
  go_loopg [5] (2 * falses ((List.replicate g.nonterms.length false).set g.start.toNat true) + 2) (fun kq m wr => ∃ (mo : Bool) (out : List Bool), m = .bool mo ∧ Aside0 (2 * falses out + (if mo then 1 else 0) < kq) ∧ Aside0 (mo = false → ∀ r ∈ g.rules, RuleShut pr out r) ∧ Aside0 (UInv g pr out) ∧ Aside0 (UM w1 wr out))
  case atStart => exact ⟨true, _, rfl, ⟨by simp⟩, ⟨fun h => by cases h⟩, HI0, HM0⟩
  case round =>
    clear HI0 HM0
    obtain ⟨mo, out0, rfl, HQ, HS, HI, HM⟩ := hrel
    obtain ⟨wo, rfl⟩ : ∃ wo : World, wo = wr := ⟨_, rfl⟩
    cases mo with
    | false =>
      have HSt := Aside0.mk (HS.out rfl)
      have HO := Aside0.mk (show UsefulOut g pr out0 from ⟨HI.out.len, fun k hk => ⟨HI.out.sound k hk, useful_all HI.out HSt.out⟩⟩)
      have hv := bools_own (base := w.heap.size) HM.out.a (by have := HBW.out; omega) (by rw [HI.out.len]; unfold maxLen; omega)
      have HC := Aside0.mk (show Kd.C Kd.bool wo (some ⟨w1.heap.size, 0, none⟩) g.nonterms.length out0 by
        obtain ⟨A, c, e, _, hC⟩ := Kd.R_reads hv
        cases e; rw [HI.out.len] at hC; exact hC)
      rw [HI.out.len] at hv
      have HV := Aside0.mk hv
      have HBE := Aside0.mk (HB1.out.trans (HM.out.b.mono (by have := HBW.out; omega)))
      clear hv HS
      go_wp2_with fail
      go_ret
      exact ⟨_, _, out0, rfl, Nat.le_refl _, HI.out.len, HPR.out ▸ HO.out, HV.out, HC.out, HBE.out⟩
    | true =>
      clear HS
      have c3 : wo.cell? ⟨w.heap.size, 3, none⟩ = some (.slice Ar g.rules.length cr) := (blk_cell (blk_below HZ1.out HM.out.b) 3).trans rfl
      have HQ1 := Aside0.mk (show 2 * falses out0 + 1 < gk from HQ.out)
      clear HQ
      go_wp2_with fail
      clear c3
      go_loopw [5, 6] (fun m i wr => ∃ (mo : Bool) (k : Nat) (out : List Bool), m = .bool mo ∧ i = .int .i64 k ∧ k ≤ g.rules.length ∧ Aside0 (mo = false → out = out0 ∧ ∀ j : Nat, j < k → RuleShut pr out (rdOf Rul.zero g.rules j)) ∧ Aside0 (mo = true → falses out < falses out0) ∧ Aside0 (UInv g pr out) ∧ Aside0 (UM w1 wr out)) (fun _ i _ => g.rules.length - (intOf i).toNat)
      case atStart => exact ⟨false, 0, out0, rfl, rfl, by omega, ⟨fun _ => ⟨rfl, fun j hj => absurd hj (by omega)⟩⟩, ⟨fun h => by cases h⟩, HI, HM⟩
      case round =>
        clear HI HM
        obtain ⟨mo, k, out, rfl, rfl, hk, HS, HF, HI, HM⟩ := hrel
        obtain ⟨wp, rfl⟩ : ∃ wp : World, wp = wr := ⟨_, rfl⟩
        have c3 : wp.cell? ⟨w.heap.size, 3, none⟩ = some (.slice Ar g.rules.length cr) := (blk_cell (blk_below HZ1.out HM.out.b) 3).trans rfl
        by_cases hlt : k < g.rules.length
        · obtain ⟨ad, A1, c1, e, h1, h2, h3, hl, hc⟩ := at_rul (HG.out.below HB1.out).rules k hlt
          replace h1 := (HM.out.b.cell (World.block_lt_of_cell? w1 _ h1)).trans h1
          replace h2 := (HM.out.b.cell (World.block_lt_of_cell? w1 _ h2)).trans h2
          replace h3 := (HM.out.b.cell (World.block_lt_of_cell? w1 _ h3)).trans h3
          have HMem := Aside0.mk (rdOf_mem Rul.zero g.rules k hlt)
          have hd1 : decide ((k : Int) < (g.rules.length : Int)) = true := decide_eq_true (by omega)
          have q1 : (k : Int) < (g.rules.length : Int) := by omega
          have HC := Aside0.mk hc
          have HLc := Aside0.mk hl
          have hro := HR.out _ HMem.out
          clear hc hl
          cases e
          generalize hrx : rdOf Rul.zero g.rules k = rx at *
          have HRX := Aside0.mk hrx
          clear hrx
          have hh0 := hro.1
          have hh1 := hro.2.1
          have HRO := Aside0.mk hro
          clear hro
          have hol := HI.out.len
          have h4 := arr_cell HM.out.a rx.head.toNat (by omega)
          rw [show ((rx.head.toNat : Nat) : Int) = rx.head by omega] at h4
          have l1 := blk_lt HM.out.a
          have HOL := Aside0.mk hol
          clear hol
          have HM1 := Aside0.mk (HM.out.below ((Below.refl wp.heap.size wp).alloc (Nat.le_refl _) (.cells #[.int .i64 rx.head, .slice A1 rx.body.length c1, .int .i64 rx.price] 42)))
          have HX1 := Aside0.mk (blk_new wp (.cells #[.int .i64 rx.head, .slice A1 rx.body.length c1, .int .i64 rx.price] 42))
          have HCb := Aside0.mk (Kd.C_alloc (Kd.C_below HC.out HM.out.b) (.cells #[.int .i64 rx.head, .slice A1 rx.body.length c1, .int .i64 rx.price] 42))
          have HLW := Aside0.mk (show w1.heap.size < wp.heap.size from l1)
          cases hh : rdOf false out rx.head with
          | false =>
            rw [hh] at h4
            have HS2 := Aside0.mk (show mo = false → out = out0 ∧ ∀ j : Nat, j < k + 1 → RuleShut pr out (rdOf Rul.zero g.rules j) from fun h => ⟨(HS.out h).1, fun j hj => by
              rcases Nat.lt_succ_iff_lt_or_eq.1 hj with h' | rfl
              · exact (HS.out h).2 j h'
              · rw [HRX.out]; intro hx; rw [hh] at hx; cases hx⟩)
            clear hh
            go_wp2_with fail
            go_roundw
            case rel => exact ⟨mo, k + 1, out, rfl, by simp, by omega, HS2, HF, HI, HM1⟩
            case measure => simp [intOf]; omega
          | true =>
            rw [hh] at h4
            have HH := Aside0.mk hh
            have key : ∀ (Q : Ending → World → Prop), Q (.returned (.bool (worksB pr rx.body))) (wp.alloc (.cells #[.int .i64 rx.head, .slice A1 rx.body.length c1, .int .i64 rx.price] 42)) →
                Calls Try.prog 24 #[.slice Ap g.nonterms.length cp, .slice A1 rx.body.length c1] (wp.alloc (.cells #[.int .i64 rx.head, .slice A1 rx.body.length c1, .int .i64 rx.price] 42)) Q := fun Q hQ => by
              have hp1 := productive1 Ap cp pr A1 c1 rx.body (wp.alloc (.cells #[.int .i64 rx.head, .slice A1 rx.body.length c1, .int .i64 rx.price] 42)) (by rw [HPL.out]; exact Kd.C_below HPC.out HM1.out.b) (by rw [HPL.out]; exact HCP.out) HCb.out HLc.out (fun x hx hneg => by rw [HPL.out]; exact HRO.out.2.2 x hx hneg)
              rw [HPL.out] at hp1
              refine hp1.mono ?_
              rintro e w' ⟨rfl, rfl⟩
              exact hQ
            have HK := Aside0.mk key
            clear hh key
            cases hw : worksB pr rx.body with
            | false =>
              have HW := Aside0.mk hw
              have HS2 := Aside0.mk (show mo = false → out = out0 ∧ ∀ j : Nat, j < k + 1 → RuleShut pr out (rdOf Rul.zero g.rules j) from fun h => ⟨(HS.out h).1, fun j hj => by
                rcases Nat.lt_succ_iff_lt_or_eq.1 hj with h' | rfl
                · exact (HS.out h).2 j h'
                · rw [HRX.out]; intro _ hx; rw [hw] at hx; cases hx⟩)
              clear hw
              go_wp2_with fail
              refine HK.out _ ?_
              rw [HW.out]
              go_wp2_with fail
              go_roundw
              case rel => exact ⟨mo, k + 1, out, rfl, by simp, by omega, HS2, HF, HI, HM1⟩
              case measure => simp [intOf]; omega
            | true =>
              have HW := Aside0.mk hw
              clear hw
              have hbm : rx.body.length ≤ 9223372036854775807 := HC.out.2.1
              go_wp2_with fail
              refine HK.out _ ?_
              rw [HW.out]
              go_wp2_with fail
              obtain ⟨W5, hW5⟩ : ∃ W5, wp.alloc (.cells #[.int .i64 rx.head, .slice A1 rx.body.length c1, .int .i64 rx.price] 42) = W5 := ⟨_, rfl⟩
              rw [hW5] at HM1 HX1 HCb ⊢
              clear hW5 HK h1 h2 h3 h4 l1 c3
              go_loopw [5, 8] (fun m i wr => ∃ (mo : Bool) (q : Nat) (ot : List Bool), m = .bool mo ∧ i = .int .i64 q ∧ q ≤ rx.body.length ∧ Aside0 (mo = false → ot = out0 ∧ (∀ j : Nat, j < k → RuleShut pr ot (rdOf Rul.zero g.rules j)) ∧ ∀ p : Nat, p < q → rd rx.body p < 0 → rdOf false ot (-1 - rd rx.body p) = true) ∧ Aside0 (mo = true → falses ot < falses out0) ∧ Aside0 (rdOf false ot rx.head = true) ∧ Aside0 (UInv g pr ot) ∧ Aside0 (UM w1 wr ot) ∧
                Aside0 (wr.heap[wp.heap.size]? = some (.cells #[.int .i64 rx.head, .slice A1 rx.body.length c1, .int .i64 rx.price] 42 (0, 0)))) (fun _ i _ => rx.body.length - (intOf i).toNat)
              case atStart => exact ⟨mo, 0, out, rfl, rfl, by omega, ⟨fun h => ⟨(HS.out h).1, (HS.out h).2, fun p hp => absurd hp (by omega)⟩⟩, HF, HH, HI, HM1, HX1⟩
              case round =>
                clear HS HF HI HM1 HH HOL HX1
                obtain ⟨mo, q, ot, rfl, rfl, hq, HS, HF, HX, HI, HM1, HX1⟩ := hrel
                have x1 : wr.cell? ⟨wp.heap.size, 1, none⟩ = some (.slice A1 rx.body.length c1) := (blk_cell HX1.out 1).trans rfl
                by_cases hqt : q < rx.body.length
                · obtain ⟨ae, e, hx⟩ := at_int (Kd.C_below HC.out HM1.out.b) q hqt
                  cases e
                  have HXm := Aside0.mk (rd_mem rx.body q hqt)
                  have hd2 : decide ((q : Int) < (rx.body.length : Int)) = true := decide_eq_true (by omega)
                  have q2 : (q : Int) < (rx.body.length : Int) := by omega
                  generalize hxe : rd rx.body q = x at *
                  have HXE := Aside0.mk hxe
                  clear hxe
                  by_cases hneg : x < 0
                  · have hxr := HRO.out.2.2 x HXm.out hneg
                    have hol := HI.out.len
                    have h4 := arr_cell HM1.out.a (-1 - x).toNat (by omega)
                    rw [show (((-1 - x).toNat : Nat) : Int) = -1 - x by omega] at h4
                    have hb : 0 ≤ -1 - x ∧ -1 - x < (g.nonterms.length : Int) := by omega
                    have hfz := blk_frozen HM1.out.a (-1 - x).toNat
                    have hd3 : decide (x < 0) = true := decide_eq_true hneg
                    have HOL := Aside0.mk hol
                    clear hol
                    cases ho : rdOf false ot (-1 - x) with
                    | true =>
                      rw [ho] at h4
                      have HS2 := Aside0.mk (show mo = false → ot = out0 ∧ (∀ j : Nat, j < k → RuleShut pr ot (rdOf Rul.zero g.rules j)) ∧ ∀ p : Nat, p < q + 1 → rd rx.body p < 0 → rdOf false ot (-1 - rd rx.body p) = true from fun h => ⟨(HS.out h).1, (HS.out h).2.1, fun p hp hp0 => by
                        rcases Nat.lt_succ_iff_lt_or_eq.1 hp with h' | rfl
                        · exact (HS.out h).2.2 p h' hp0
                        · rw [HXE.out]; exact ho⟩)
                      clear ho HS
                      go_wp2_with fail
                      go_roundw
                      case rel => exact ⟨mo, q + 1, ot, rfl, by simp, by omega, HS2, HF, HX, HI, HM1, HX1⟩
                      case measure => simp [intOf]; omega
                    | false =>
                      rw [ho] at h4
                      have HI2 := Aside0.mk (uinv_put HI.out HR.out hs HMem.out HX.out HW.out HXm.out hneg)
                      have HM2 := Aside0.mk (HM1.out.put (-1 - x).toNat true)
                      have HX2 := Aside0.mk (show (wr.setCell ⟨w1.heap.size, (-1 - x).toNat, none⟩ (.bool true)).heap[wp.heap.size]? = _ from blk_far HX1.out (by have := HLW.out; simp; omega) _)
                      have HF2 := Aside0.mk (show falses (ot.set (-1 - x).toNat true) < falses out0 by
                        have hlt' : falses (ot.set (-1 - x).toNat true) < falses ot := falses_set ot _ (by rw [HOL.out]; omega) (by rw [show (((-1 - x).toNat : Nat) : Int) = -1 - x by omega]; exact ho)
                        cases mo with
                        | true => exact Nat.lt_trans hlt' (HF.out rfl)
                        | false => rw [(HS.out rfl).1] at hlt' ⊢; exact hlt')
                      have HX3 := Aside0.mk (show rdOf false (ot.set (-1 - x).toNat true) rx.head = true by
                        have := rdOf_set false ot (-1 - x).toNat rx.head.toNat true (by rw [HOL.out]; omega)
                        rw [show ((rx.head.toNat : Nat) : Int) = rx.head by omega] at this
                        rw [this]; split
                        · rfl
                        · exact HX.out)
                      clear ho HS HF HX HI HM1 HX1
                      go_wp2_with fail
                      go_roundw
                      case rel => exact ⟨true, q + 1, _, rfl, by simp, by omega, ⟨fun h => by cases h⟩, ⟨fun _ => HF2.out⟩, HX3, HI2, HM2, HX2⟩
                      case measure => simp [intOf]; omega
                  · have hd3 : decide (x < 0) = false := decide_eq_false hneg
                    have HS2 := Aside0.mk (show mo = false → ot = out0 ∧ (∀ j : Nat, j < k → RuleShut pr ot (rdOf Rul.zero g.rules j)) ∧ ∀ p : Nat, p < q + 1 → rd rx.body p < 0 → rdOf false ot (-1 - rd rx.body p) = true from fun h => ⟨(HS.out h).1, (HS.out h).2.1, fun p hp hp0 => by
                      rcases Nat.lt_succ_iff_lt_or_eq.1 hp with h' | rfl
                      · exact (HS.out h).2.2 p h' hp0
                      · rw [HXE.out] at hp0; exact absurd hp0 hneg⟩)
                    clear HS
                    go_wp2_with fail
                    go_roundw
                    case rel => exact ⟨mo, q + 1, ot, rfl, by simp, by omega, HS2, HF, HX, HI, HM1, HX1⟩
                    case measure => simp [intOf]; omega
                · obtain rfl : q = rx.body.length := by omega
                  have HS2 := Aside0.mk (show mo = false → ot = out0 ∧ ∀ j : Nat, j < k + 1 → RuleShut pr ot (rdOf Rul.zero g.rules j) from fun h => ⟨(HS.out h).1, fun j hj => by
                    rcases Nat.lt_succ_iff_lt_or_eq.1 hj with h' | rfl
                    · exact (HS.out h).2.1 j h'
                    · rw [HRX.out]; intro _ _ x hx hneg
                      obtain ⟨p, hp, rfl⟩ := List.getElem_of_mem hx
                      have := (HS.out h).2.2 p hp
                      rw [rd_nat _ _ hp] at this
                      exact this hneg⟩)
                  clear HS
                  go_wp2_with fail
                  go_roundw
                  case rel => exact ⟨mo, k + 1, ot, rfl, by simp, by omega, HS2, HF, HI, HM1⟩
                  case measure => simp [intOf]; omega
        · obtain rfl : k = g.rules.length := by omega
          have HSt := Aside0.mk (show mo = false → ∀ r ∈ g.rules, RuleShut pr out r from fun h r hr => by
            obtain ⟨j, hj, rfl⟩ := List.getElem_of_mem hr
            have := (HS.out h).2 j hj
            rwa [rdOf_nat Rul.zero g.rules j hj] at this)
          have HQ2 := Aside0.mk (show 2 * falses out + (if mo then 1 else 0) < 2 * falses out0 + 1 by
            cases mo with
            | true => have := HF.out rfl; simp; omega
            | false => rw [(HS.out rfl).1]; simp)
          clear HS HF
          go_wp2_with fail
          go_roundg (2 * falses out0 + 1)
          case measure => exact HQ1.out
          case rel => exact ⟨mo, out, rfl, HQ2, HSt, HI, HM⟩
end Go.Proofs.Ytadednkdhblpfaa.Ref
