/- emendatelaw22.ReduceGrammar, walked. -/
import Derived.Test.YtadednkdhblpfaaIdem
import Derived.Test.YtadednkdhblpfaaRef22d
namespace Go.Proofs.Ytadednkdhblpfaa.Law
open Go.RowKit Go.Proofs.YtadednkdhblpfaaW.PrintWords Go.Proofs.YtadednkdhblpfaaW.PrintLast Go.Proofs.YtadednkdhblpfaaW.PrintMore Go.Proofs.Ytadednkdhblpfaa.B Go.Proofs.Ytadednkdhblpfaa.Val Go.Proofs.Ytadednkdhblpfaa.Ana Go.Proofs.Ytadednkdhblpfaa.Red Go.Proofs.Ytadednkdhblpfaa.Ref
set_option linter.unusedVariables false
set_option linter.unusedSimpArgs false

set_option maxHeartbeats 4000000 in
set_option maxRecDepth 100000 in
theorem grammar (g : Gr) (w : World) (hM : MaxL w)
    (At : Option Addr) (ct : Nat) (An : Option Addr) (cn : Nat) (Ar : Option Addr) (cr : Nat) (hg : GrC w At ct An cn Ar cr g) :
    Calls Try.prog 3 #[.agg #[.slice At g.terms.length ct, .slice An g.nonterms.length cn, .int .i64 g.start, .slice Ar g.rules.length cr]] w (LawPost w) := by
  have HG := Aside0.mk hg
  have HM := Aside0.mk hM
  clear hg hM
  obtain ⟨W, hW⟩ : ∃ W, w.alloc (.cells #[.slice At g.terms.length ct, .slice An g.nonterms.length cn, .int .i64 g.start, .slice Ar g.rules.length cr] 25) = W := ⟨_, rfl⟩
  have HZ := Aside0.mk (show W.heap[w.heap.size]? = some (.cells #[.slice At g.terms.length ct, .slice An g.nonterms.length cn, .int .i64 g.start, .slice Ar g.rules.length cr] 25 (0, 0)) by rw [← hW]; exact blk_new _ _)
  have HB := Aside0.mk (show Below w.heap.size w W by rw [← hW]; exact (Below.refl _ _).alloc (Nat.le_refl _) _)
  have z0 : W.cell? ⟨w.heap.size, 0, none⟩ = some (.slice At g.terms.length ct) := (blk_cell HZ.out 0).trans rfl
  have z1 : W.cell? ⟨w.heap.size, 1, none⟩ = some (.slice An g.nonterms.length cn) := (blk_cell HZ.out 1).trans rfl
  have z2 : W.cell? ⟨w.heap.size, 2, none⟩ = some (.int .i64 g.start) := (blk_cell HZ.out 2).trans rfl
  have z3 : W.cell? ⟨w.heap.size, 3, none⟩ = some (.slice Ar g.rules.length cr) := (blk_cell HZ.out 3).trans rfl
  go_enter Try.func3, Try.ntmps3
  go_wp2_with fail
  refine (few g 40 W At ct An cn Ar cr (HG.out.below HB.out)).mono ?_
  rintro e w1 ⟨b, rfl, hb1⟩
  have HB1 := Aside0.mk (HB.out.trans (hb1.mono HB.out.size))
  have HZ1 := Aside0.mk (blk_below HZ.out hb1)
  clear z0 z1 z2 z3 hb1 hW HB HZ
  cases b with
  | false =>
    go_wp2_with fail
    refine (awake w1 (maxL_below HM.out HB1.out)).mono ?_
    rintro e w2 ⟨rfl, hb2⟩
    have HB2 := Aside0.mk (HB1.out.trans (hb2.mono HB1.out.size))
    clear hb2
    go_wp2_with fail
    go_ret
    exact ⟨rfl, HB2.out⟩
  | true =>
    have z0 : w1.cell? ⟨w.heap.size, 0, none⟩ = some (.slice At g.terms.length ct) := (blk_cell HZ1.out 0).trans rfl
    have z1 : w1.cell? ⟨w.heap.size, 1, none⟩ = some (.slice An g.nonterms.length cn) := (blk_cell HZ1.out 1).trans rfl
    have z2 : w1.cell? ⟨w.heap.size, 2, none⟩ = some (.int .i64 g.start) := (blk_cell HZ1.out 2).trans rfl
    have z3 : w1.cell? ⟨w.heap.size, 3, none⟩ = some (.slice Ar g.rules.length cr) := (blk_cell HZ1.out 3).trans rfl
    go_wp2_with fail
    have h22 := fun (W' : World) (h : GrC W' At ct An cn Ar cr g) => Ref.reduce22 g W' At ct An cn Ar cr h
    have H22 := Aside0.mk h22
    clear h22
    refine (reduce g w1 (maxL_below HM.out HB1.out) At ct An cn Ar cr (HG.out.below HB1.out)).mono ?_
    obtain ⟨⟨r, fr, n⟩, hr⟩ : ∃ R, reduceR g = R := ⟨_, rfl⟩
    rw [hr]
    have HRr := Aside0.mk hr
    clear hr
    rintro e w2 ⟨Bt, dt, Bn, dn, Br, dr, Bf, df, rfl, hg2, hl2, hb2⟩
    have HB2 := Aside0.mk (HB1.out.trans (hb2.mono HB1.out.size))
    have HZ2 := Aside0.mk (blk_below HZ1.out hb2)
    have HG2 := Aside0.mk (hg2 w2 (Ch.refl _ _)).1
    have HF2 := Aside0.mk (hg2 w2 (Ch.refl _ _)).2
    have HL2 := Aside0.mk hl2
    clear hb2 z0 z1 z2 z3 hg2 hl2
    obtain ⟨W2, hW2⟩ : ∃ W2, w2.alloc (.cells #[.slice Bt r.terms.length dt, .slice Bn r.nonterms.length dn, .int .i64 r.start, .slice Br r.rules.length dr] 25) = W2 := ⟨_, rfl⟩
    have HR2 := Aside0.mk (show W2.heap[w2.heap.size]? = some (.cells #[.slice Bt r.terms.length dt, .slice Bn r.nonterms.length dn, .int .i64 r.start, .slice Br r.rules.length dr] 25 (0, 0)) by rw [← hW2]; exact blk_new _ _)
    have hb : Below w2.heap.size w2 W2 := by rw [← hW2]; exact below_alloc (Below.refl _ _) _
    have HB3 := Aside0.mk (HB2.out.trans (hb.mono HB2.out.size))
    have HZ3 := Aside0.mk (blk_below HZ2.out hb)
    have HG3 := Aside0.mk (HG2.out.below hb)
    have HF3 := Aside0.mk (Kd.C_below HF2.out hb)
    clear HG2 HF2 HZ1 HZ2 hb
    have z0 : W2.cell? ⟨w.heap.size, 0, none⟩ = some (.slice At g.terms.length ct) := (blk_cell HZ3.out 0).trans rfl
    have z1 : W2.cell? ⟨w.heap.size, 1, none⟩ = some (.slice An g.nonterms.length cn) := (blk_cell HZ3.out 1).trans rfl
    have z2 : W2.cell? ⟨w.heap.size, 2, none⟩ = some (.int .i64 g.start) := (blk_cell HZ3.out 2).trans rfl
    have z3 : W2.cell? ⟨w.heap.size, 3, none⟩ = some (.slice Ar g.rules.length cr) := (blk_cell HZ3.out 3).trans rfl
    go_wp2_with fail
    clear hW2
    refine (H22.out W2 (HG.out.below HB3.out)).mono ?_
    rw [HRr.out]
    rintro e w4 ⟨Ct, et, Cn, en, Cr, er, Cf, ef, rfl, hg4, hl4, hb4⟩
    have HB4 := Aside0.mk (HB3.out.trans (hb4.mono HB3.out.size))
    have HR4 := Aside0.mk (blk_below HR2.out hb4)
    have HG4 := Aside0.mk (hg4 w4 (Ch.refl _ _)).1
    have HF4 := Aside0.mk (hg4 w4 (Ch.refl _ _)).2
    have HG5 := Aside0.mk (HG3.out.below hb4)
    have HF5 := Aside0.mk (Kd.C_below HF3.out hb4)
    have HL4 := Aside0.mk hl4
    clear hb4 hg4 hl4 z0 z1 z2 z3 HG3 HF3 HR2
    obtain ⟨W4, hW4⟩ : ∃ W4, w4.alloc (.cells #[.slice Ct r.terms.length et, .slice Cn r.nonterms.length en, .int .i64 r.start, .slice Cr r.rules.length er] 25) = W4 := ⟨_, rfl⟩
    have HQ := Aside0.mk (show W4.heap[w4.heap.size]? = some (.cells #[.slice Ct r.terms.length et, .slice Cn r.nonterms.length en, .int .i64 r.start, .slice Cr r.rules.length er] 25 (0, 0)) by rw [← hW4]; exact blk_new _ _)
    have HR := Aside0.mk (show W4.heap[w2.heap.size]? = some (.cells #[.slice Bt r.terms.length dt, .slice Bn r.nonterms.length dn, .int .i64 r.start, .slice Br r.rules.length dr] 25 (0, 0)) by rw [← hW4]; exact blk_alloc HR4.out _)
    have hb : Below w4.heap.size w4 W4 := by rw [← hW4]; exact below_alloc (Below.refl _ _) _
    have HBW := Aside0.mk (HB4.out.trans (hb.mono HB4.out.size))
    have HG6 := Aside0.mk (HG4.out.below hb)
    have HG7 := Aside0.mk (HG5.out.below hb)
    have HF6 := Aside0.mk (Kd.C_below HF4.out hb)
    have HF7 := Aside0.mk (Kd.C_below HF5.out hb)
    clear HG4 HG5 HF4 HF5 HR4 hb
    go_wp2_with fail
    clear hW4
    refine (awake W4 (maxL_below HM.out HBW.out)).mono ?_
    rintro e w5 ⟨rfl, hb5⟩
    have HB5 := Aside0.mk (HBW.out.trans (hb5.mono HBW.out.size))
    have hr5 := blk_below HR.out hb5
    have hq5 := blk_below HQ.out hb5
    have z0 : w5.cell? ⟨w2.heap.size, 0, none⟩ = some (.slice Bt r.terms.length dt) := (blk_cell hr5 0).trans rfl
    have z1 : w5.cell? ⟨w2.heap.size, 1, none⟩ = some (.slice Bn r.nonterms.length dn) := (blk_cell hr5 1).trans rfl
    have z2 : w5.cell? ⟨w2.heap.size, 2, none⟩ = some (.int .i64 r.start) := (blk_cell hr5 2).trans rfl
    have z3 : w5.cell? ⟨w2.heap.size, 3, none⟩ = some (.slice Br r.rules.length dr) := (blk_cell hr5 3).trans rfl
    have y0 : w5.cell? ⟨w4.heap.size, 0, none⟩ = some (.slice Ct r.terms.length et) := (blk_cell hq5 0).trans rfl
    have y1 : w5.cell? ⟨w4.heap.size, 1, none⟩ = some (.slice Cn r.nonterms.length en) := (blk_cell hq5 1).trans rfl
    have y2 : w5.cell? ⟨w4.heap.size, 2, none⟩ = some (.int .i64 r.start) := (blk_cell hq5 2).trans rfl
    have y3 : w5.cell? ⟨w4.heap.size, 3, none⟩ = some (.slice Cr r.rules.length er) := (blk_cell hq5 3).trans rfl
    have HG8 := Aside0.mk (HG6.out.below hb5)
    have HG9 := Aside0.mk (HG7.out.below hb5)
    have HF8 := Aside0.mk (Kd.C_below HF6.out hb5)
    have HF9 := Aside0.mk (Kd.C_below HF7.out hb5)
    clear hb5 hr5 hq5 HG6 HG7 HF6 HF7 HQ HR
    go_wp2_with fail
    refine (equal r r w5 Bt dt Bn dn Br dr HG9.out Ct et Cn en Cr er HG8.out).mono ?_
    rintro e w6 ⟨rfl, hb6⟩
    rw [show decide (r = r) = true from decide_eq_true rfl]
    have HB6 := Aside0.mk (HB5.out.trans (hb6.mono HB5.out.size))
    have HFa := Aside0.mk (Kd.C_below HF8.out hb6)
    have HFb := Aside0.mk (Kd.C_below HF9.out hb6)
    clear hb6 z0 z1 z2 z3 y0 y1 y2 y3 HF8 HF9 HG8 HG9
    go_wp2_with fail
    refine (ints Bf df fr Cf ef fr w6 HFb.out HL2.out HFa.out HL4.out).mono ?_
    rintro e w7 ⟨rfl, ⟨m, rfl⟩⟩
    rw [show decide (fr = fr) = true from decide_eq_true rfl]
    go_wp2_with fail
    go_ret
    exact ⟨rfl, pw_below_drewN HB6.out _⟩
end Go.Proofs.Ytadednkdhblpfaa.Law
