/- emendatelaw22.ReduceIdempotent, walked. -/
import Derived.Test.YtadednkdhblpfaaAwake2
import Derived.Test.YtadednkdhblpfaaPlain
namespace Go.Proofs.Ytadednkdhblpfaa.Law
open Go.RowKit Go.Proofs.YtadednkdhblpfaaW.PrintWords Go.Proofs.YtadednkdhblpfaaW.PrintLast Go.Proofs.YtadednkdhblpfaaW.PrintMore Go.Proofs.Ytadednkdhblpfaa.B Go.Proofs.Ytadednkdhblpfaa.Val Go.Proofs.Ytadednkdhblpfaa.Ana Go.Proofs.Ytadednkdhblpfaa.Red Go.Proofs.Ytadednkdhblpfaa.Ref
set_option linter.unusedVariables false
set_option linter.unusedSimpArgs false

/-- a law's answer -/
def LawPost (w : World) (e : Ending) (w' : World) : Prop := e = .returned (.bool true) ∧ Below w.heap.size w w'

theorem maxL_below {w w1 : World} (h : MaxL w) (hb : Below w.heap.size w w1) : MaxL w1 :=
  h.below hb (by obtain ⟨m, hm⟩ := h; exact World.block_lt_of_cell? w _ hm)
theorem rd_iota (n k : Nat) (h : k < n) : rd ((List.range n).map (fun j : Nat => (j : Int))) k = (k : Int) := by
  rw [rd_nat _ k (by simpa using h)]; simp

set_option maxHeartbeats 4000000 in
set_option maxRecDepth 100000 in
theorem idem (g : Gr) (w : World) (hM : MaxL w)
    (At : Option Addr) (ct : Nat) (An : Option Addr) (cn : Nat) (Ar : Option Addr) (cr : Nat) (hg : GrC w At ct An cn Ar cr g) :
    Calls Try.prog 5 #[.agg #[.slice At g.terms.length ct, .slice An g.nonterms.length cn, .int .i64 g.start, .slice Ar g.rules.length cr]] w (LawPost w) := by
  have HG := Aside0.mk hg
  have HM := Aside0.mk hM
  clear hg hM
  obtain ⟨W, hW⟩ : ∃ W, w.alloc (.cells #[.slice At g.terms.length ct, .slice An g.nonterms.length cn, .int .i64 g.start, .slice Ar g.rules.length cr] 25) = W := ⟨_, rfl⟩
  have HZ := Aside0.mk (show W.heap[w.heap.size]? = some (.cells #[.slice At g.terms.length ct, .slice An g.nonterms.length cn, .int .i64 g.start, .slice Ar g.rules.length cr] 25 (0, 0)) by rw [← hW]; exact blk_new _ _)
  have HB := Aside0.mk (show Below w.heap.size w W by rw [← hW]; exact (Below.refl _ _).alloc (Nat.le_refl _) _)
  have z0 : W.cell? ⟨w.heap.size, 0, none⟩ = some (.slice At g.terms.length ct) := (blk_cell HZ.out 0).trans rfl
  have z1 : W.cell? ⟨w.heap.size, 1, none⟩ = some (.slice An g.nonterms.length cn) := (blk_cell HZ.out 1).trans rfl
  have z2 : W.cell? ⟨w.heap.size, 2, none⟩ = some (.int .i64 g.start) := (blk_cell HZ.out 2).trans rfl
  have z3 : W.cell? ⟨w.heap.size, 3, none⟩ = some (.slice Ar g.rules.length cr) := (blk_cell HZ.out 3).trans rfl
  go_enter Try.func5, Try.ntmps5
  go_wp2_with fail
  refine (few g 40 W At ct An cn Ar cr (HG.out.below HB.out)).mono ?_
  rintro e w1 ⟨b, rfl, hb1⟩
  have HB1 := Aside0.mk (HB.out.trans (hb1.mono HB.out.size))
  have HZ1 := Aside0.mk (blk_below HZ.out hb1)
  clear z0 z1 z2 z3 hb1 hW HB HZ
  cases b with
  | false =>
    go_wp2_with fail
    refine (awake w1 (maxL_below HM.out HB1.out)).mono ?_
    rintro e w2 ⟨rfl, hb2⟩
    have HB2 := Aside0.mk (HB1.out.trans (hb2.mono HB1.out.size))
    clear hb2
    go_wp2_with fail
    go_ret
    exact ⟨rfl, HB2.out⟩
  | true =>
    have z0 : w1.cell? ⟨w.heap.size, 0, none⟩ = some (.slice At g.terms.length ct) := (blk_cell HZ1.out 0).trans rfl
    have z1 : w1.cell? ⟨w.heap.size, 1, none⟩ = some (.slice An g.nonterms.length cn) := (blk_cell HZ1.out 1).trans rfl
    have z2 : w1.cell? ⟨w.heap.size, 2, none⟩ = some (.int .i64 g.start) := (blk_cell HZ1.out 2).trans rfl
    have z3 : w1.cell? ⟨w.heap.size, 3, none⟩ = some (.slice Ar g.rules.length cr) := (blk_cell HZ1.out 3).trans rfl
    go_wp2_with fail
    refine (reduce g w1 (maxL_below HM.out HB1.out) At ct An cn Ar cr (HG.out.below HB1.out)).mono ?_
    rcases reduceR_cases g with hr | hr | hr
    case inl =>
      rw [hr.1]
      rintro e w2 ⟨Bt, dt, Bn, dn, Br, dr, Bf, df, rfl, hg2, hl2, hb2⟩
      have HB2 := Aside0.mk (HB1.out.trans (hb2.mono HB1.out.size))
      clear hb2 z0 z1 z2 z3 hg2 hl2 hr
      go_wp2_with fail
      refine (awake _ (maxL_below HM.out (HB2.out.alloc HB2.out.size _))).mono ?_
      rintro e w3 ⟨rfl, hb3⟩
      have HB3 := Aside0.mk ((HB2.out.alloc HB2.out.size _).trans (hb3.mono (by simp; have := HB2.out.size; omega)))
      clear hb3
      go_wp2_with fail
      go_ret
      exact ⟨rfl, HB3.out⟩
    case inr.inl =>
      rw [hr.1]
      rintro e w2 ⟨Bt, dt, Bn, dn, Br, dr, Bf, df, rfl, hg2, hl2, hb2⟩
      have HB2 := Aside0.mk (HB1.out.trans (hb2.mono HB1.out.size))
      clear hb2 z0 z1 z2 z3 hg2 hl2 hr
      go_wp2_with fail
      refine (awake _ (maxL_below HM.out (HB2.out.alloc HB2.out.size _))).mono ?_
      rintro e w3 ⟨rfl, hb3⟩
      have HB3 := Aside0.mk ((HB2.out.alloc HB2.out.size _).trans (hb3.mono (by simp; have := HB2.out.size; omega)))
      clear hb3
      go_wp2_with fail
      go_ret
      exact ⟨rfl, HB3.out⟩
    case inr.inr =>
      rw [hr.1]
      have HOk := Aside0.mk hr.2
      rintro e w2 ⟨Bt, dt, Bn, dn, Br, dr, Bf, df, rfl, hg2, hl2, hb2⟩
      have HB2 := Aside0.mk (HB1.out.trans (hb2.mono HB1.out.size))
      have HG2 := Aside0.mk (show GrC w2 Bt dt Bn dn Br dr (rG g) from (hg2 w2 (Ch.refl _ _)).1)
      have HA := Aside0.mk hr.2.again
      clear hb2 z0 z1 z2 z3 hg2 hl2 hr
      generalize rG g = r at *
      obtain ⟨W2, hW2⟩ : ∃ W2, w2.alloc (.cells #[.slice Bt r.terms.length dt, .slice Bn r.nonterms.length dn, .int .i64 r.start, .slice Br r.rules.length dr] 25) = W2 := ⟨_, rfl⟩
      have HR2 := Aside0.mk (show W2.heap[w2.heap.size]? = some (.cells #[.slice Bt r.terms.length dt, .slice Bn r.nonterms.length dn, .int .i64 r.start, .slice Br r.rules.length dr] 25 (0, 0)) by rw [← hW2]; exact blk_new _ _)
      have HB3 := Aside0.mk (show Below w.heap.size w W2 by rw [← hW2]; exact HB2.out.alloc HB2.out.size _)
      have HG3 := Aside0.mk (show GrC W2 Bt dt Bn dn Br dr r by rw [← hW2]; exact HG2.out.below (below_alloc (Below.refl _ _) _))
      clear HG2
      have z0 : W2.cell? ⟨w2.heap.size, 0, none⟩ = some (.slice Bt r.terms.length dt) := (blk_cell HR2.out 0).trans rfl
      have z1 : W2.cell? ⟨w2.heap.size, 1, none⟩ = some (.slice Bn r.nonterms.length dn) := (blk_cell HR2.out 1).trans rfl
      have z2 : W2.cell? ⟨w2.heap.size, 2, none⟩ = some (.int .i64 r.start) := (blk_cell HR2.out 2).trans rfl
      have z3 : W2.cell? ⟨w2.heap.size, 3, none⟩ = some (.slice Br r.rules.length dr) := (blk_cell HR2.out 3).trans rfl
      go_wp2_with fail
      clear hW2
      refine (reduce r W2 (maxL_below HM.out HB3.out) Bt dt Bn dn Br dr HG3.out).mono ?_
      rw [HA.out]
      rintro e w4 ⟨Ct, et, Cn, en, Cr, er, Cf, ef, rfl, hg4, hl4, hb4⟩
      have HB4 := Aside0.mk (HB3.out.trans (hb4.mono HB3.out.size))
      have HR4 := Aside0.mk (blk_below HR2.out hb4)
      have HG4 := Aside0.mk (show GrC w4 Ct et Cn en Cr er r from (hg4 w4 (Ch.refl _ _)).1)
      have HF4 := Aside0.mk (show Kd.C (Kd.int .i64) w4 Cf r.rules.length ((List.range r.rules.length).map (fun j : Nat => (j : Int))) from by
        have := (hg4 w4 (Ch.refl _ _)).2
        rwa [List.length_map, List.length_range] at this)
      have HG5 := Aside0.mk (HG3.out.below hb4)
      have hlen : ((List.range r.rules.length).map (fun j : Nat => (j : Int))).length = r.rules.length := by simp
      have hm : r.rules.length ≤ 9223372036854775807 := HG3.out.rules.2.1
      clear hb4 hg4 hl4 z0 z1 z2 z3 HA HG3 HR2 HB3
      obtain ⟨W4, hW4⟩ : ∃ W4, w4.alloc (.cells #[.slice Ct r.terms.length et, .slice Cn r.nonterms.length en, .int .i64 r.start, .slice Cr r.rules.length er] 25) = W4 := ⟨_, rfl⟩
      have HQ := Aside0.mk (show W4.heap[w4.heap.size]? = some (.cells #[.slice Ct r.terms.length et, .slice Cn r.nonterms.length en, .int .i64 r.start, .slice Cr r.rules.length er] 25 (0, 0)) by rw [← hW4]; exact blk_new _ _)
      have HR := Aside0.mk (show W4.heap[w2.heap.size]? = some (.cells #[.slice Bt r.terms.length dt, .slice Bn r.nonterms.length dn, .int .i64 r.start, .slice Br r.rules.length dr] 25 (0, 0)) by rw [← hW4]; exact blk_alloc HR4.out _)
      have HB := Aside0.mk (show Below w.heap.size w W4 by rw [← hW4]; exact HB4.out.alloc HB4.out.size _)
      have HG6 := Aside0.mk (show GrC W4 Ct et Cn en Cr er r by rw [← hW4]; exact HG4.out.below (below_alloc (Below.refl _ _) _))
      have HG7 := Aside0.mk (show GrC W4 Bt dt Bn dn Br dr r by rw [← hW4]; exact HG5.out.below (below_alloc (Below.refl _ _) _))
      have HF := Aside0.mk (show Kd.C (Kd.int .i64) W4 Cf r.rules.length ((List.range r.rules.length).map (fun j : Nat => (j : Int))) by rw [← hW4]; exact Kd.C_alloc HF4.out _)
      have z0 : W4.cell? ⟨w2.heap.size, 0, none⟩ = some (.slice Bt r.terms.length dt) := (blk_cell HR.out 0).trans rfl
      have z1 : W4.cell? ⟨w2.heap.size, 1, none⟩ = some (.slice Bn r.nonterms.length dn) := (blk_cell HR.out 1).trans rfl
      have z2 : W4.cell? ⟨w2.heap.size, 2, none⟩ = some (.int .i64 r.start) := (blk_cell HR.out 2).trans rfl
      have z3 : W4.cell? ⟨w2.heap.size, 3, none⟩ = some (.slice Br r.rules.length dr) := (blk_cell HR.out 3).trans rfl
      have y0 : W4.cell? ⟨w4.heap.size, 0, none⟩ = some (.slice Ct r.terms.length et) := (blk_cell HQ.out 0).trans rfl
      have y1 : W4.cell? ⟨w4.heap.size, 1, none⟩ = some (.slice Cn r.nonterms.length en) := (blk_cell HQ.out 1).trans rfl
      have y2 : W4.cell? ⟨w4.heap.size, 2, none⟩ = some (.int .i64 r.start) := (blk_cell HQ.out 2).trans rfl
      have y3 : W4.cell? ⟨w4.heap.size, 3, none⟩ = some (.slice Cr r.rules.length er) := (blk_cell HQ.out 3).trans rfl
      clear HR4 HG4 HG5 HF4 HB4
      go_wp2_with fail
      clear hW4
      refine (equal r r W4 Ct et Cn en Cr er HG6.out Bt dt Bn dn Br dr HG7.out).mono ?_
      rintro e w5 ⟨rfl, hb5⟩
      rw [show decide (r = r) = true from decide_eq_true rfl]
      have HB5 := Aside0.mk (HB.out.trans (hb5.mono HB.out.size))
      have HF5 := Aside0.mk (Kd.C_below HF.out hb5)
      have h5 := blk_below HR.out hb5
      have z3' : w5.cell? ⟨w2.heap.size, 3, none⟩ = some (.slice Br r.rules.length dr) := (blk_cell h5 3).trans rfl
      clear hb5 h5 z0 z1 z2 z3 y0 y1 y2 y3 HQ HR HB HG6 HG7 HF
      go_wp2_with fail
      clear hlen
      have HRd := Aside0.mk (fun k (hk : k < r.rules.length) => rd_iota r.rules.length k hk)
      generalize (List.range r.rules.length).map (fun j : Nat => (j : Int)) = fr at *
      clear z3'
      go_loop [9] (fun i => ∃ k : Nat, i = .int .i64 k ∧ k ≤ r.rules.length) (fun i => r.rules.length - (intOf i).toNat)
      case atStart => exact ⟨0, rfl, Nat.zero_le _⟩
      case round =>
        obtain ⟨k, rfl, hk⟩ := hrel
        by_cases hlt : k < r.rules.length
        · obtain ⟨ad, e, hx⟩ := at_int HF5.out k hlt
          cases e
          rw [HRd.out k hlt] at hx
          have hd : decide ((k : Int) < (r.rules.length : Int)) = true := decide_eq_true (by omega)
          go_wp2_with fail
          go_round
          case rel => exact ⟨k + 1, by simp, by omega⟩
          case measure => simp [intOf]; omega
        · obtain rfl : k = r.rules.length := by omega
          go_wp2_with fail
          refine (awake w5 (maxL_below HM.out HB5.out)).mono ?_
          rintro e w6 ⟨rfl, hb6⟩
          have HB6 := Aside0.mk (HB5.out.trans (hb6.mono HB5.out.size))
          clear hb6
          go_wp2_with fail
          go_ret
          exact ⟨rfl, HB6.out⟩
end Go.Proofs.Ytadednkdhblpfaa.Law
