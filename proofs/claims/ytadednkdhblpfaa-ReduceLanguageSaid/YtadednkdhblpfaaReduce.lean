/- reduce.Reduce, walked. -/
import Derived.Test.YtadednkdhblpfaaRedMem
import Derived.Test.YtadednkdhblpfaaClone
namespace Go.Proofs.Ytadednkdhblpfaa.Red
open Go.RowKit Go.Proofs.YtadednkdhblpfaaW.PrintWords Go.Proofs.YtadednkdhblpfaaW.PrintLast Go.Proofs.YtadednkdhblpfaaW.PrintMore Go.Proofs.Ytadednkdhblpfaa.B Go.Proofs.Ytadednkdhblpfaa.Ana Go.Proofs.Ytadednkdhblpfaa.Val
set_option linter.unusedVariables false
set_option linter.unusedSimpArgs false

/-- A grammar, indices and an error come back; they are read at w', and wherever only blocks older than the call have changed since. -/
def GrPost (w : World) (r : Gr × List Int × Int) (e : Ending) (w' : World) : Prop :=
  ∃ At ct An cn Ar cr Af cf, e = .returned (.tuple #[.agg #[.slice At r.1.terms.length ct, .slice An r.1.nonterms.length cn, .int .i64 r.1.start, .slice Ar r.1.rules.length cr], .slice Af r.2.1.length cf, .int .i64 r.2.2]) ∧
    (∀ w2, Ch (fun k => k < w.heap.size) w' w2 → GrC w2 At ct An cn Ar cr r.1 ∧ Kd.C (Kd.int .i64) w2 Af r.2.1.length r.2.1) ∧ r.2.1.length ≤ cf ∧ Below w.heap.size w w'
theorem grC_zero (w : World) : GrC w none 0 none 0 none 0 Gr.zero :=
  ⟨Kd.C_nil _ _, Nat.le_refl _, Kd.C_nil _ _, Nat.le_refl _, Kd.C_nil _ _, Nat.le_refl _, (fun s h => by cases h), (fun s h => by cases h)⟩

/-- validB's ranges, as the walks ask them -/
theorem rulOk_of_valid {g : Gr} (h : validB g = true) : (∀ r ∈ g.rules, RulOk g.nonterms.length r) ∧ (0 ≤ g.start ∧ g.start < g.nonterms.length) ∧ 1 ≤ g.nonterms.length ∧ g.nonterms.length ≤ 120 ∧ g.rules.length ≤ 120 ∧ g.terms.length ≤ 120 ∧ (∀ r ∈ g.rules, r.body.length ≤ 12) ∧ (∀ r ∈ g.rules, ∀ x ∈ r.body, x < g.terms.length) := by
  unfold validB at h
  simp only [Bool.and_eq_true, decide_eq_true_eq, List.all_eq_true] at h
  obtain ⟨⟨⟨⟨⟨⟨⟨⟨h1, h2⟩, h3⟩, h4⟩, h5⟩, h6⟩, h7⟩, h8⟩, h9⟩ := h
  have key : ∀ r ∈ g.rules, (0 ≤ r.head ∧ r.head < (g.nonterms.length : Int)) ∧ r.body.length ≤ 12 ∧ ∀ x ∈ r.body, ¬ (x ≥ (g.terms.length : Int)) ∧ ¬ (x < -(g.nonterms.length : Int)) := fun r hr => by
    have := h9 r hr
    unfold rulB at this
    simp only [Bool.and_eq_true, decide_eq_true_eq, Bool.not_eq_true', List.any_eq_false] at this
    obtain ⟨⟨⟨⟨⟨a1, a2⟩, a3⟩, a4⟩, a5⟩, a6⟩ := this
    refine ⟨⟨a1, a2⟩, a3, fun x hx => ?_⟩
    have := a6 x hx
    unfold symBad at this
    simpa using this
  exact ⟨fun r hr => ⟨(key r hr).1.1, (key r hr).1.2, fun x hx _ => by have := ((key r hr).2.2 x hx).2; omega⟩, ⟨h5, h6⟩, h2, h3, h8, h1, fun r hr => (key r hr).2.1, fun r hr x hx => by have := ((key r hr).2.2 x hx).1; omega⟩

set_option maxHeartbeats 4000000 in
set_option maxRecDepth 100000 in
theorem reduce (g : Gr) (w : World) (hM : MaxL w)
    (At : Option Addr) (ct : Nat) (An : Option Addr) (cn : Nat) (Ar : Option Addr) (cr : Nat) (hg : GrC w At ct An cn Ar cr g) :
    Calls Try.prog 10 #[.agg #[.slice At g.terms.length ct, .slice An g.nonterms.length cn, .int .i64 g.start, .slice Ar g.rules.length cr]] w
      (GrPost w (reduceR g)) := by
  have hmm := @run_makeMap Try.prog
  have hu := Try.underlying25
  have HG := Aside0.mk hg
  have HM := Aside0.mk hM
  have HML := Aside0.mk (show 0 < w.heap.size by obtain ⟨m, hm⟩ := hM; exact World.block_lt_of_cell? w _ hm)
  clear hg hM
  cases hv : validB g with
  | false =>
    have HR := Aside0.mk (show reduceR g = (Gr.zero, [], 1) by unfold reduceR; rw [if_pos hv])
    have HV := Aside0.mk hv
    clear hv
    go_enter Try.func10, Try.ntmps10
    go_wp2_with fail
    generalize hW0 : (w.alloc (.cells #[.slice At g.terms.length ct, .slice An g.nonterms.length cn, .int .i64 g.start, .slice Ar g.rules.length cr] 25)).alloc (.cells #[.slice none 0 0, .slice none 0 0, .int .i64 0, .slice none 0 0] 25) = W0
    have HB0 := Aside0.mk (show Below w.heap.size w W0 by rw [← hW0]; exact ((Below.refl _ _).alloc (Nat.le_refl _) _).alloc (by simp) _)
    have HG0 := Aside0.mk (show W0.heap[w.heap.size]? = some (.cells #[.slice At g.terms.length ct, .slice An g.nonterms.length cn, .int .i64 g.start, .slice Ar g.rules.length cr] 25 (0, 0)) by rw [← hW0]; exact blk_alloc (blk_new w _) _)
    have HZ0 := Aside0.mk (show W0.heap[w.heap.size + 1]? = some (.cells #[.slice none 0 0, .slice none 0 0, .int .i64 0, .slice none 0 0] 25 (0, 0)) by
      rw [← hW0]; have := blk_new (w.alloc (.cells #[.slice At g.terms.length ct, .slice An g.nonterms.length cn, .int .i64 g.start, .slice Ar g.rules.length cr] 25)) (.cells #[.slice none 0 0, .slice none 0 0, .int .i64 0, .slice none 0 0] 25); simpa using this)
    clear hW0
    refine (valid g W0 (HM.out.below HB0.out HML.out) At ct An cn Ar cr (HG.out.below HB0.out)).mono ?_
    rintro e w1 ⟨rfl, hb1⟩
    have HB1 := Aside0.mk (HB0.out.trans (hb1.mono HB0.out.size))
    have HG1 := Aside0.mk (blk_below HG0.out hb1)
    have HZ1 := Aside0.mk (blk_below HZ0.out hb1)
    have f1 := blk_frozen HZ1.out 0
    have f2 := blk_frozen HZ1.out 1
    have f3 := blk_frozen HZ1.out 2
    have f4 := blk_frozen HZ1.out 3
    have z0 : w1.cell? ⟨w.heap.size + 1, 0, none⟩ = some (.slice none 0 0) := (blk_cell HZ1.out 0).trans rfl
    have z1 : w1.cell? ⟨w.heap.size + 1, 1, none⟩ = some (.slice none 0 0) := (blk_cell HZ1.out 1).trans rfl
    have z2 : w1.cell? ⟨w.heap.size + 1, 2, none⟩ = some (.int .i64 0) := (blk_cell HZ1.out 2).trans rfl
    have z3 : w1.cell? ⟨w.heap.size + 1, 3, none⟩ = some (.slice none 0 0) := (blk_cell HZ1.out 3).trans rfl
    clear hb1 HB0 HG0 HZ0
    rw [HV.out]
    go_wp2_with fail
    have HB2 := Aside0.mk (below4 HB1.out (show w.heap.size ≤ w.heap.size + 1 by omega) (.slice none 0 0) (.slice none 0 0) (.int .i64 0) (.slice none 0 0))
    have hz := put4 HZ1.out (.slice none 0 0) (.slice none 0 0) (.int .i64 0) (.slice none 0 0)
    clear z0 z1 z2 z3 f1 f2 f3 f4
    generalize ((((w1.setCell ⟨w.heap.size + 1, 0, none⟩ (.slice none 0 0)).setCell ⟨w.heap.size + 1, 1, none⟩ (.slice none 0 0)).setCell ⟨w.heap.size + 1, 2, none⟩ (.int .i64 0)).setCell ⟨w.heap.size + 1, 3, none⟩ (.slice none 0 0)) = W2 at *
    have z0 : W2.cell? ⟨w.heap.size + 1, 0, none⟩ = some (.slice none 0 0) := (blk_cell hz 0).trans rfl
    have z1 : W2.cell? ⟨w.heap.size + 1, 1, none⟩ = some (.slice none 0 0) := (blk_cell hz 1).trans rfl
    have z2 : W2.cell? ⟨w.heap.size + 1, 2, none⟩ = some (.int .i64 0) := (blk_cell hz 2).trans rfl
    have z3 : W2.cell? ⟨w.heap.size + 1, 3, none⟩ = some (.slice none 0 0) := (blk_cell hz 3).trans rfl
    refine bodyPost_ret (v := .tuple #[.agg #[.slice none 0 0, .slice none 0 0, .int .i64 0, .slice none 0 0], .slice none 0 0, .int .i64 1]) (by simp [results, Try.results10, go_sem, hu, z0, z1, z2, z3]) rfl ?_
    rw [HR.out]
    exact ⟨none, 0, none, 0, none, 0, none, 0, rfl, fun w2 _ => ⟨grC_zero _, Kd.C_nil _ _⟩, Nat.le_refl _, HB2.out⟩
  | true =>
    obtain ⟨hro, hst, hn1, hn2, hn3, hn4, hbl, hsy⟩ := rulOk_of_valid hv
    have HRO := Aside0.mk hro
    have HV := Aside0.mk hv
    have HBL := Aside0.mk hbl
    clear hv hro hbl hsy
    go_enter Try.func10, Try.ntmps10
    go_wp2_with fail
    generalize hW0 : (w.alloc (.cells #[.slice At g.terms.length ct, .slice An g.nonterms.length cn, .int .i64 g.start, .slice Ar g.rules.length cr] 25)).alloc (.cells #[.slice none 0 0, .slice none 0 0, .int .i64 0, .slice none 0 0] 25) = W0
    have HB0 := Aside0.mk (show Below w.heap.size w W0 by rw [← hW0]; exact ((Below.refl _ _).alloc (Nat.le_refl _) _).alloc (by simp) _)
    have HG0 := Aside0.mk (show W0.heap[w.heap.size]? = some (.cells #[.slice At g.terms.length ct, .slice An g.nonterms.length cn, .int .i64 g.start, .slice Ar g.rules.length cr] 25 (0, 0)) by rw [← hW0]; exact blk_alloc (blk_new w _) _)
    have HZ0 := Aside0.mk (show W0.heap[w.heap.size + 1]? = some (.cells #[.slice none 0 0, .slice none 0 0, .int .i64 0, .slice none 0 0] 25 (0, 0)) by
      rw [← hW0]; have := blk_new (w.alloc (.cells #[.slice At g.terms.length ct, .slice An g.nonterms.length cn, .int .i64 g.start, .slice Ar g.rules.length cr] 25)) (.cells #[.slice none 0 0, .slice none 0 0, .int .i64 0, .slice none 0 0] 25); simpa using this)
    clear hW0
    refine (valid g W0 (HM.out.below HB0.out HML.out) At ct An cn Ar cr (HG.out.below HB0.out)).mono ?_
    rintro e w1 ⟨rfl, hb1⟩
    have HB1 := Aside0.mk (HB0.out.trans (hb1.mono HB0.out.size))
    have HG1 := Aside0.mk (blk_below HG0.out hb1)
    have HZ1 := Aside0.mk (blk_below HZ0.out hb1)
    clear hb1 HB0 HG0 HZ0
    rw [HV.out]
    have g0 : w1.cell? ⟨w.heap.size, 0, none⟩ = some (.slice At g.terms.length ct) := (blk_cell HG1.out 0).trans rfl
    have g1 : w1.cell? ⟨w.heap.size, 1, none⟩ = some (.slice An g.nonterms.length cn) := (blk_cell HG1.out 1).trans rfl
    have g2 : w1.cell? ⟨w.heap.size, 2, none⟩ = some (.int .i64 g.start) := (blk_cell HG1.out 2).trans rfl
    have g3 : w1.cell? ⟨w.heap.size, 3, none⟩ = some (.slice Ar g.rules.length cr) := (blk_cell HG1.out 3).trans rfl
    go_wp2_with fail
    refine (productive g w1 At ct An cn Ar cr (HG.out.below HB1.out) HRO.out (by omega)).mono ?_
    rintro e w2 ⟨vp, pr, rfl, ho, hr, hb2⟩
    have HPE := Aside0.mk (HeadsOut.eq ho)
    have hpl : pr.length = g.nonterms.length := ho.len
    obtain ⟨Ap, cp, rfl, hcp, hpc⟩ := Kd.R_reads hr
    have HB2 := Aside0.mk (HB1.out.trans (hb2.mono HB1.out.size))
    have HG2 := Aside0.mk (blk_below HG1.out hb2)
    have HZ2 := Aside0.mk (blk_below HZ1.out hb2)
    have HPC := Aside0.mk hpc
    have HPR := Aside0.mk (Row.of_R hr)
    have hs21 : w1.heap.size ≤ w2.heap.size := hb2.size
    have hs1 : w.heap.size + 1 < w1.heap.size := blk_lt HZ1.out
    have HCP := Aside0.mk hcp
    have HPL := Aside0.mk hpl
    clear hr hb2 hpc ho hcp HB1 HG1 HZ1 g0 g1 g2 g3
    have g0 : w2.cell? ⟨w.heap.size, 0, none⟩ = some (.slice At g.terms.length ct) := (blk_cell HG2.out 0).trans rfl
    have g1 : w2.cell? ⟨w.heap.size, 1, none⟩ = some (.slice An g.nonterms.length cn) := (blk_cell HG2.out 1).trans rfl
    have g2 : w2.cell? ⟨w.heap.size, 2, none⟩ = some (.int .i64 g.start) := (blk_cell HG2.out 2).trans rfl
    have g3 : w2.cell? ⟨w.heap.size, 3, none⟩ = some (.slice Ar g.rules.length cr) := (blk_cell HG2.out 3).trans rfl
    obtain ⟨adp, e, hps⟩ := at_bool HPC.out g.start.toNat (by omega)
    cases e
    rw [show ((g.start.toNat : Nat) : Int) = g.start by omega] at hps
    have hsr : 0 ≤ g.start ∧ g.start < (pr.length : Int) := by omega
    clear hpl
    cases hp : rdOf false pr g.start with
    | false =>
      rw [hp] at hps
      have HR := Aside0.mk (show reduceR g = (Gr.zero, [], 10) by unfold reduceR; rw [if_neg (by rw [HV.out]; simp), if_pos (by rw [← HPE.out]; exact hp)])
      clear hp
      have f1 := blk_frozen HZ2.out 0
      have f2 := blk_frozen HZ2.out 1
      have f3 := blk_frozen HZ2.out 2
      have f4 := blk_frozen HZ2.out 3
      have z0 : w2.cell? ⟨w.heap.size + 1, 0, none⟩ = some (.slice none 0 0) := (blk_cell HZ2.out 0).trans rfl
      have z1 : w2.cell? ⟨w.heap.size + 1, 1, none⟩ = some (.slice none 0 0) := (blk_cell HZ2.out 1).trans rfl
      have z2 : w2.cell? ⟨w.heap.size + 1, 2, none⟩ = some (.int .i64 0) := (blk_cell HZ2.out 2).trans rfl
      have z3 : w2.cell? ⟨w.heap.size + 1, 3, none⟩ = some (.slice none 0 0) := (blk_cell HZ2.out 3).trans rfl
      go_wp2_with fail
      have HB3 := Aside0.mk (below4 HB2.out (show w.heap.size ≤ w.heap.size + 1 by omega) (.slice none 0 0) (.slice none 0 0) (.int .i64 0) (.slice none 0 0))
      have hz := put4 HZ2.out (.slice none 0 0) (.slice none 0 0) (.int .i64 0) (.slice none 0 0)
      clear z0 z1 z2 z3 f1 f2 f3 f4
      generalize ((((w2.setCell ⟨w.heap.size + 1, 0, none⟩ (.slice none 0 0)).setCell ⟨w.heap.size + 1, 1, none⟩ (.slice none 0 0)).setCell ⟨w.heap.size + 1, 2, none⟩ (.int .i64 0)).setCell ⟨w.heap.size + 1, 3, none⟩ (.slice none 0 0)) = W2 at *
      have z0 : W2.cell? ⟨w.heap.size + 1, 0, none⟩ = some (.slice none 0 0) := (blk_cell hz 0).trans rfl
      have z1 : W2.cell? ⟨w.heap.size + 1, 1, none⟩ = some (.slice none 0 0) := (blk_cell hz 1).trans rfl
      have z2 : W2.cell? ⟨w.heap.size + 1, 2, none⟩ = some (.int .i64 0) := (blk_cell hz 2).trans rfl
      have z3 : W2.cell? ⟨w.heap.size + 1, 3, none⟩ = some (.slice none 0 0) := (blk_cell hz 3).trans rfl
      refine bodyPost_ret (v := .tuple #[.agg #[.slice none 0 0, .slice none 0 0, .int .i64 0, .slice none 0 0], .slice none 0 0, .int .i64 10]) (by simp [results, Try.results10, go_sem, hu, z0, z1, z2, z3]) rfl ?_
      rw [HR.out]
      exact ⟨none, 0, none, 0, none, 0, none, 0, rfl, fun w2 _ => ⟨grC_zero _, Kd.C_nil _ _⟩, Nat.le_refl _, HB3.out⟩
    | true =>
      rw [hp] at hps
      have HR := Aside0.mk (show reduceR g = (redG g pr (useL g), (keptIdx pr (useL g) g.rules g.rules.length).map (fun j : Nat => (j : Int)), 0) by
        unfold reduceR; rw [if_neg (by rw [HV.out]; simp), ← HPE.out, if_neg (by rw [hp]; simp)])
      clear hp
      go_wp2_with fail
      refine (useful g pr w2 At ct An cn Ar cr (HG.out.below HB2.out) (some adp) cp HPC.out HCP.out HPL.out HRO.out hst (by omega)).mono ?_
      rintro e w3 ⟨vu, us, rfl, ho, hr, hb3⟩
      have HUE := Aside0.mk (show us = useL g from UsefulOut.eq (by rw [← HPE.out]; exact ho))
      have HUL := Aside0.mk ho.len
      obtain ⟨Au, cu, rfl, hcu, huc⟩ := Kd.R_reads hr
      have HB3 := Aside0.mk (HB2.out.trans (hb3.mono HB2.out.size))
      have HG3 := Aside0.mk (blk_below HG2.out hb3)
      have HZ3 := Aside0.mk (blk_below HZ2.out hb3)
      have HPR3 := Aside0.mk (HPR.out.below hb3)
      have HUR3 := Aside0.mk (Row.of_R hr)
      have hs32 : w2.heap.size ≤ w3.heap.size := hb3.size
      have HCU := Aside0.mk hcu
      clear ho hr hb3 huc hcu HB2 HG2 HZ2 HPC HPR g0 g1 g2 g3 hps hsr
      have g0 : w3.cell? ⟨w.heap.size, 0, none⟩ = some (.slice At g.terms.length ct) := (blk_cell HG3.out 0).trans rfl
      have l0 := blk_lt HG3.out
      go_wp2_with fail
      refine (cloneStr At ct g.terms _ (Kd.C_alloc (Kd.C_below HG.out.terms HB3.out) _) HG.out.lt (by omega)).mono ?_
      rintro e w4 ⟨vt, St, rfl, hrt, hb4⟩
      obtain ⟨At2, ct2, rfl, hct2, htc⟩ := hrt.reads
      have HTC := Aside0.mk htc
      have HCT2 := Aside0.mk hct2
      clear htc hct2
      have HBx : Below w3.heap.size w3 w4 := ((Below.refl w3.heap.size w3).alloc (Nat.le_refl _) (.map #[] 0)).trans (hb4.mono (by simp))
      have HB4 := Aside0.mk (HB3.out.trans (HBx.mono HB3.out.size))
      have HG4 := Aside0.mk (blk_below HG3.out HBx)
      have HZ4 := Aside0.mk (blk_below HZ3.out HBx)
      have HPR4 := Aside0.mk (HPR3.out.below HBx)
      have HUR4 := Aside0.mk (HUR3.out.below HBx)
      have HMp := Aside0.mk (show w4.ownsMap Try.prog 3 (plainElem Try.prog 3) w3.heap.size 0 (.map [] : DataW Unit) from
        (World.ownsMap_made (H := Unit) w3 Try.prog 3 (plainElem Try.prog 3)).kept (grown_of_below hb4 none) (by simp))
      have HRT := Aside0.mk hrt
      have hms : w3.heap.size < w4.heap.size := by have := hb4.size; simp at this; omega
      clear hb4 hrt HBx HB3 HG3 HZ3 HPR3 HUR3 g0 l0
      have g1 : w4.cell? ⟨w.heap.size, 1, none⟩ = some (.slice An g.nonterms.length cn) := (blk_cell HG4.out 1).trans rfl
      have l0 := blk_lt HG4.out
      go_wp2_with fail
      have HMem0 := Aside0.mk (show RMem w (w4.alloc (.cells #[.slice At2 g.terms.length ct2, .slice none 0 0, .int .i64 0, .slice none 0 0] 25)) (labR w.heap.size w4.heap.size w3.heap.size) w3.heap.size w4.heap.size #[.slice At g.terms.length ct, .slice An g.nonterms.length cn, .int .i64 g.start, .slice Ar g.rules.length cr] #[.slice At2 g.terms.length ct2, .slice none 0 0, .int .i64 0, .slice none 0 0] (.slice At2 g.terms.length ct2) (.slice (some adp) pr.length cp) (.slice Au us.length cu) (.slice none 0 0) g pr us [] by
        have hx := HB4.out.size
        have hts := HRT.out.b
        have hps := HPR4.out.b
        have hus := HUR4.out.b
        simp only [World.size_alloc] at hts
        refine ⟨fun k hk => labR0 hk, HB4.out.alloc HB4.out.size _, ⟨blk_alloc HG4.out _, labR1 (by omega) (by omega)⟩, ⟨blk_alloc HZ4.out _, labR1 (by omega) (by omega)⟩, ⟨blk_new _ _, labR2 (by omega) rfl⟩, labR3 (by omega) (by omega) rfl, by simp; omega, ?_, ?_, ?_, LRow.nil _ _ _ _ _ _⟩
        · exact ((LRow.of_row HRT.out (fun k hk => labR4 (by have := hts k hk; omega) (by have := hts k hk; omega) (by have := hts k hk; omega))).lower (by simp; omega)).below (below_alloc (Below.refl _ _) _)
        · exact ((LRow.of_row HPR4.out (fun k hk => labR5 (by have := hps k hk; omega) (by have := hps k hk; omega) (by have := hps k hk; have := hk.2; omega))).lower (by omega)).below (below_alloc (Below.refl _ _) _)
        · exact ((LRow.of_row HUR4.out (fun k hk => labR5 (by have := hus k hk; omega) (by have := hus k hk; omega) (by have := hus k hk; have := hk.2; omega))).lower (by omega)).below (below_alloc (Below.refl _ _) _))
      clear HRT HPR4 HUR4 HTC HG4 HZ4 g1 l0 HB4 hs1 hs21 hs32
      have HMp0 := Aside0.mk (HMp.out.alloc (.cells #[.slice At2 g.terms.length ct2, .slice none 0 0, .int .i64 0, .slice none 0 0] 25))
      clear HMp
      generalize w4.alloc (.cells #[.slice At2 g.terms.length ct2, .slice none 0 0, .int .i64 0, .slice none 0 0] 25) = W5 at *
      go_loopw [41] (fun i wr => ∃ (k : Nat) (D : DataW Unit) (vN : Value) (lab : Nat → Nat), i = .int .i64 k ∧ k ≤ g.nonterms.length ∧
        Aside0 (RMem w wr lab w3.heap.size w4.heap.size #[.slice At g.terms.length ct, .slice An g.nonterms.length cn, .int .i64 g.start, .slice Ar g.rules.length cr] #[.slice At2 g.terms.length ct2, vN, .int .i64 0, .slice none 0 0] (.slice At2 g.terms.length ct2) (.slice (some adp) pr.length cp) (.slice Au us.length cu) vN g pr us ((useIdx us k).map (fun i : Nat => rdOf ByteArray.empty g.nonterms (i : Int)))) ∧
        Aside0 (wr.ownsMap Try.prog 3 (plainElem Try.prog 3) w3.heap.size k D) ∧ Aside0 (NumView D (useIdx us k))) (fun i _ => g.nonterms.length - (intOf i).toNat)
      case atStart => exact ⟨0, _, _, _, rfl, by omega, HMem0, HMp0, ⟨numView_nil⟩⟩
      case round =>
        clear HMem0 HMp0
        obtain ⟨k, D, vN, lab, rfl, hk, HRm, HMp, HNV⟩ := hrel
        by_cases hlt : k < g.nonterms.length
        · obtain ⟨ad, e, hx⟩ := at_str HG.out.nonterms k hlt
          replace hx := (HRm.out.b.cell (World.block_lt_of_cell? w _ hx)).trans hx
          cases e
          obtain ⟨Au', cu', hue, _, huC⟩ := HRm.out.u.reads
          cases hue
          obtain ⟨adu, e, hus⟩ := at_bool huC k (by rw [HUL.out]; exact hlt)
          cases e
          have hul : (k : Int) < (us.length : Int) := by rw [HUL.out]; omega
          obtain ⟨An2, cn2, hne, hcn2, _⟩ := HRm.out.n.reads
          subst hne
          clear huC hcn2
          cases hu1 : rdOf false us (k : Int) with
          | false =>
            rw [hu1] at hus
            have HI := Aside0.mk (show useIdx us (k + 1) = useIdx us k by rw [useIdx_succ, hu1]; simp)
            clear hu1
            go_wp2_with fail
            go_roundw
            case rel => exact ⟨k + 1, D, _, lab, by simp, by omega, by rw [HI.out]; exact HRm, ⟨HMp.out.mono (by omega)⟩, by rw [HI.out]; exact HNV⟩
            case measure => simp [intOf]; omega
          | true =>
            rw [hu1] at hus
            have HI := Aside0.mk (show useIdx us (k + 1) = useIdx us k ++ [k] by rw [useIdx_succ, hu1]; simp)
            clear hu1
            have hle := useIdx_le us k
            obtain ⟨ns, hns⟩ : ∃ ns, ns = (useIdx us k).map (fun i : Nat => rdOf ByteArray.empty g.nonterms (i : Int)) := ⟨_, rfl⟩
            have hnl : ns.length = (useIdx us k).length := by rw [hns]; simp
            rw [← hns] at HRm
            have HNS := Aside0.mk hns
            have hnb : ns.length ≤ 120 := by omega
            have HNL := Aside0.mk hnl
            clear hns hnl
            have o1 : wr.cell? ⟨w4.heap.size, 1, none⟩ = some (.slice An2 ns.length cn2) := (HRm.out.oB.cell 1).trans rfl
            have hkey : keyOf Try.prog 3 (.int .i64 (k : Int)) = some (.int .i64 (k : Int)) := Maps.keyOf_int_mk Try.underlying3 (wf_small _ (by omega) (by omega))
            go_wp2_with (first
              | (at_mapUpdate; refine wpList_mapUpdate_own _ rfl _ _ _ 45 rfl 3 3 lawI Try.underlying45 (plainElem Try.prog 3) w3.heap.size k _ rfl HMp.out (by unfold maxLen; omega) _ _ _ rfl rfl hkey _ [] (plainElem_int Try.underlying3 (wf_small _ (by omega) (by omega))) ?_; intro w6 hown6 hgrow6; have hc6 := Ch.of_grown1 hgrow6; have HRm6 := Aside0.mk (HRm.out.step (lab' := lab) hc6 (fun i hi => .inl (by rw [hi]; exact HRm.out.ml)) (fun _ _ _ => rfl)); have HMp6 := Aside0.mk hown6; have o6 : w6.cell? ⟨w4.heap.size, 1, none⟩ = some (.slice An2 ns.length cn2) := (HRm6.out.oB.cell 1).trans rfl; have l6 := HRm6.out.oB.lt; clear hown6 hgrow6 hc6 o1)
              | (at_builtin; refine lrow_append Kd.string lab 6 99 w.heap.size rfl (.tmp 56) (.tmp 58) 22 9 (.string ⟨#[]⟩) 16 rfl Try.underlying22 info_str rfl (by decide) (by decide) (.slice An2 ns.length cn2) ns (rdOf ByteArray.empty g.nonterms (k : Int)) [.string (rdOf ByteArray.empty g.nonterms (k : Int))] rfl rfl rfl (by decide) HRm6.out.n HRm6.out.b.size (by omega) ?_; intro v1 w7 hr7 hc7; obtain ⟨An3, cn3, hv1, _, _⟩ := hr7.reads; subst hv1; have hob7 := HRm6.out.oB.step (lab' := labApp lab w6.heap.size 6 99) hc7 (fun i hi hl => ⟨by omega, labApp_keep hi hl (by omega)⟩); have o7 : w7.cell? ⟨w4.heap.size, 1, none⟩ = some (.slice An2 ns.length cn2) := (hob7.cell 1).trans rfl; have f7 := hob7.frozen 1; have l7 := hob7.lt; have HRm7 := Aside0.mk (HRm6.out.push hc7 hr7); have HMp7 := Aside0.mk (ownsMap_ch (ownsMap_ch HMp6.out hc7 (by have := HRm6.out.ml; omega)) ((Ch.refl (fun i => i = w4.heap.size) w7).setCell (p := ⟨w4.heap.size, 1, none⟩) (.inl rfl) (.slice An3 (ns ++ [rdOf ByteArray.empty g.nonterms (k : Int)]).length cn3)) (by omega)); clear hr7 hc7 hob7 o6 l6))
            have HN2 := Aside0.mk (show ns ++ [rdOf ByteArray.empty g.nonterms (k : Int)] = (useIdx us (k + 1)).map (fun i : Nat => rdOf ByteArray.empty g.nonterms (i : Int)) by rw [HI.out, HNS.out]; simp)
            have hsz : (ns ++ [rdOf ByteArray.empty g.nonterms (k : Int)]).length = ns.length + 1 := by simp
            rw [HN2.out, ← HN2.out, hsz] at HRm7
            rw [hsz] at HMp7
            have HV2 := Aside0.mk (show NumView (D.put (ik (k : Int)) (.lit (.int .i64 (ns.length : Int)))) (useIdx us (k + 1)) by
              rw [HI.out, HNL.out]; exact numView_put HNV.out k (not_mem_useIdx us k))
            go_roundw
            case rel => exact ⟨k + 1, _, _, _, by simp, by omega, by rw [← HN2.out]; exact HRm7, HMp7, HV2⟩
            case measure => simp [intOf]; omega
        · obtain rfl : k = g.nonterms.length := by omega
          have hul := HUL.out
          have g2 : wr.cell? ⟨w.heap.size, 2, none⟩ = some (.int .i64 g.start) := (HRm.out.gb.cell 2).trans rfl
          have g3 : wr.cell? ⟨w.heap.size, 3, none⟩ = some (.slice Ar g.rules.length cr) := (HRm.out.gb.cell 3).trans rfl
          have o2 : wr.cell? ⟨w4.heap.size, 2, none⟩ = some (.int .i64 0) := (HRm.out.oB.cell 2).trans rfl
          have f2 := HRm.out.oB.frozen 2
          have nl := HRm.out.oB.lt
          have nbo : w.heap.size ≠ w4.heap.size := fun e => by have := HRm.out.gb.l; have := HRm.out.oB.l; rw [e] at *; omega
          have hkey : keyOf Try.prog 3 (.int .i64 g.start) = some (.int .i64 g.start) := Maps.keyOf_int_mk Try.underlying3 (wf_small _ (by omega) (by omega))
          obtain ⟨L, hL⟩ : ∃ L, L = useIdx us g.nonterms.length := ⟨_, rfl⟩
          rw [← hL] at HRm HNV
          have HLE := Aside0.mk hL
          have hLl : L.length ≤ g.nonterms.length := by rw [hL]; exact useIdx_le _ _
          clear hL hul
          have HR2 := Aside0.mk (show R2 w (wr.setCell ⟨w4.heap.size, 2, none⟩ (.int .i64 (numIn L g.start))) lab w3.heap.size w4.heap.size g.nonterms.length #[.slice At g.terms.length ct, .slice An g.nonterms.length cn, .int .i64 g.start, .slice Ar g.rules.length cr] (.slice At2 g.terms.length ct2) (.slice (some adp) pr.length cp) (.slice Au us.length cu) vN (.int .i64 (numIn L g.start)) (.slice none 0 0) (.slice none 0 0) g pr us (L.map (fun i : Nat => rdOf ByteArray.empty g.nonterms (i : Int))) D [] [] from
            ⟨HRm.out.putO 2 _ rfl, ownsMap_ch HMp.out ((Ch.refl (fun i => i = w4.heap.size) wr).setCell (p := ⟨w4.heap.size, 2, none⟩) (.inl rfl) (.int .i64 (numIn L g.start))) (by omega), LRow.nil _ _ _ _ _ _, LRow.nil _ _ _ _ _ _⟩)
          go_wp2_with (first
            | (at_lookup; refine wpList_lookup_own_int _ rfl _ _ 45 rfl 3 3 .i64 lawI Try.underlying45 Try.underlying3 (zeroI _) w3.heap.size g.nonterms.length _ rfl HMp.out _ _ rfl hkey ?_; intro c hat hwc; obtain rfl : c = numIn L g.start := (by have h1 := HNV.out.at_ g.start; unfold ik at h1; rw [h1] at hat; injection hat with hat; injection hat with hat hat2; exact hat2.symm); clear hat hwc))
          clear g2 g3 o2 f2 nl nbo HRm HMp hkey
          generalize wr.setCell ⟨w4.heap.size, 2, none⟩ (.int .i64 (numIn L g.start)) = W8 at *
          go_loopw [11, 70] (fun vF i wr => ∃ (k : Nat) (vR : Value) (lab : Nat → Nat), i = .int .i64 k ∧ k ≤ g.rules.length ∧ Aside0 (R2 w wr lab w3.heap.size w4.heap.size g.nonterms.length #[.slice At g.terms.length ct, .slice An g.nonterms.length cn, .int .i64 g.start, .slice Ar g.rules.length cr] (.slice At2 g.terms.length ct2) (.slice (some adp) pr.length cp) (.slice Au us.length cu) vN (.int .i64 (numIn L g.start)) vR vF g pr us (L.map (fun i : Nat => rdOf ByteArray.empty g.nonterms (i : Int))) D ((keptIdx pr us g.rules k).map (fun j : Nat => renRul L (rdOf Rul.zero g.rules (j : Int)))) ((keptIdx pr us g.rules k).map (fun j : Nat => (j : Int))))) (fun _ i _ => g.rules.length - (intOf i).toNat)
          case atStart => exact ⟨0, _, _, rfl, by omega, HR2⟩
          case round =>
            clear HR2
            obtain ⟨k, vR, lab, rfl, hk, HR2⟩ := hrel
            obtain ⟨rs, hrs⟩ : ∃ rs, rs = (keptIdx pr us g.rules k).map (fun j : Nat => renRul L (rdOf Rul.zero g.rules (j : Int))) := ⟨_, rfl⟩
            obtain ⟨fr, hfr⟩ : ∃ fr, fr = (keptIdx pr us g.rules k).map (fun j : Nat => (j : Int)) := ⟨_, rfl⟩
            have hkl := keptIdx_le pr us g.rules k
            have hrl : rs.length ≤ 120 := by rw [hrs, List.length_map]; omega
            have hfl : fr.length ≤ 120 := by rw [hfr, List.length_map]; omega
            rw [← hrs, ← hfr] at HR2
            have HRS := Aside0.mk hrs
            have HFR := Aside0.mk hfr
            clear hrs hfr hkl
            by_cases hlt : k < g.rules.length
            · obtain ⟨ad, A1, c1, e, h1, h2, h3, hl, hc⟩ := at_rul HG.out.rules k hlt
              replace h1 := (HR2.out.m.b.cell (World.block_lt_of_cell? w _ h1)).trans h1
              replace h2 := (HR2.out.m.b.cell (World.block_lt_of_cell? w _ h2)).trans h2
              replace h3 := (HR2.out.m.b.cell (World.block_lt_of_cell? w _ h3)).trans h3
              have HMem := Aside0.mk (rdOf_mem Rul.zero g.rules k hlt)
              have hd1 : decide ((k : Int) < (g.rules.length : Int)) = true := decide_eq_true (by omega)
              have HC := Aside0.mk hc
              have HLc := Aside0.mk hl
              have hrok := HRO.out _ HMem.out
              have hbl12 := HBL.out _ HMem.out
              clear hc hl
              cases e
              have HKS := Aside0.mk (keptIdx_succ pr us g.rules k)
              generalize hrx : rdOf Rul.zero g.rules k = rx at *
              have HRX := Aside0.mk hrx
              clear hrx
              have hh0 := hrok.1
              have hh1 := hrok.2.1
              have HRk := Aside0.mk hrok
              clear hrok
              obtain ⟨Au', cu', hue, _, huC⟩ := HR2.out.m.u.reads
              cases hue
              have hul := HUL.out
              obtain ⟨adu, e, hus⟩ := at_bool huC rx.head.toNat (by omega)
              cases e
              rw [show ((rx.head.toNat : Nat) : Int) = rx.head by omega] at hus
              have hur : 0 ≤ rx.head ∧ rx.head < (us.length : Int) := by omega
              have hub := World.block_lt_of_cell? wr _ hus
              clear huC hul
              obtain ⟨Af, cf, hfe, hcf2, hfC⟩ := HR2.out.f.reads
              subst hfe
              clear hcf2 hfC
              cases hu1 : rdOf false us rx.head with
              | false =>
                rw [hu1] at hus
                have HI := Aside0.mk (show keptIdx pr us g.rules (k + 1) = keptIdx pr us g.rules k by rw [HKS.out]; unfold keeps; rw [hu1]; simp)
                clear hu1
                go_wp2_with fail
                go_roundw
                case rel => exact ⟨k + 1, vR, lab, by simp, by omega, by rw [HI.out, ← HRS.out, ← HFR.out]; exact ⟨HR2.out.below (below_alloc (Below.refl _ _) _)⟩⟩
                case measure => simp [intOf]; omega
              | true =>
                rw [hu1] at hus
                have HU1 := Aside0.mk hu1
                clear hu1
                obtain ⟨Ap', cp', hpe, _, hpC⟩ := HR2.out.m.p.reads
                cases hpe
                have HPC := Aside0.mk hpC
                clear hpC
                go_wp2_with fail
                refine (works A1 c1 rx.body (some adp) cp pr _ (Kd.C_alloc (Kd.C_below HC.out HR2.out.m.b) _) HLc.out (Kd.C_alloc HPC.out _) HCP.out (fun x hx hneg => by rw [HPL.out]; exact HRk.out.2.2 x hx hneg)).mono ?_
                rintro e w1 ⟨rfl, hb1⟩
                have hbx : Below wr.heap.size wr w1 := ((Below.refl wr.heap.size wr).alloc (Nat.le_refl _) (.cells #[.int .i64 rx.head, .slice A1 rx.body.length c1, .int .i64 rx.price] 42)).trans (hb1.mono (by simp))
                have HR21 := Aside0.mk (HR2.out.below hbx)
                have HZ1 := Aside0.mk (blk_below (blk_new wr (.cells #[.int .i64 rx.head, .slice A1 rx.body.length c1, .int .i64 rx.price] 42)) hb1)
                have b0 : w1.cell? ⟨wr.heap.size, 0, none⟩ = some (.int .i64 rx.head) := (blk_cell HZ1.out 0).trans rfl
                have b1 : w1.cell? ⟨wr.heap.size, 1, none⟩ = some (.slice A1 rx.body.length c1) := (blk_cell HZ1.out 1).trans rfl
                have b2 : w1.cell? ⟨wr.heap.size, 2, none⟩ = some (.int .i64 rx.price) := (blk_cell HZ1.out 2).trans rfl
                clear hb1 hbx h1 h2 h3 hus HR2 HPC
                cases hw : worksB pr rx.body with
                | false =>
                  have HI := Aside0.mk (show keptIdx pr us g.rules (k + 1) = keptIdx pr us g.rules k by rw [HKS.out]; unfold keeps; rw [HU1.out, hw]; simp)
                  clear hw
                  go_wp2_with fail
                  go_roundw
                  case rel => exact ⟨k + 1, vR, lab, by simp, by omega, by rw [HI.out, ← HRS.out, ← HFR.out]; exact HR21⟩
                  case measure => simp [intOf]; omega
                | true =>
                  have HI := Aside0.mk (show keptIdx pr us g.rules (k + 1) = keptIdx pr us g.rules k ++ [k] by rw [HKS.out]; unfold keeps; rw [HU1.out, hw]; simp)
                  clear hw
                  have hkey : keyOf Try.prog 3 (.int .i64 rx.head) = some (.int .i64 rx.head) := Maps.keyOf_int_mk Try.underlying3 (wf_small _ (by omega) (by omega))
                  have lz := blk_lt HZ1.out
                  go_wp2_with (first
                    | (at_lookup; refine wpList_lookup_own_int _ rfl _ _ 45 rfl 3 3 .i64 lawI Try.underlying45 Try.underlying3 (zeroI _) w3.heap.size g.nonterms.length _ rfl HR21.out.mp _ _ rfl hkey ?_; intro c hat hwc; obtain rfl : c = numIn L rx.head := (by have h1 := HNV.out.at_ rx.head; unfold ik at h1; rw [h1] at hat; injection hat with hat; injection hat with hat hat2; exact hat2.symm); clear hat hwc))
                  have hbm : rx.body.length ≤ 9223372036854775807 := HC.out.2.1
                  have HR3 := Aside0.mk (show R2 w (w1.alloc (.cells #[.int .i64 (numIn L rx.head), .slice none 0 0, .int .i64 rx.price] 42)) (fun i => if i = w1.heap.size then 10 else lab i) w3.heap.size w4.heap.size g.nonterms.length #[.slice At g.terms.length ct, .slice An g.nonterms.length cn, .int .i64 g.start, .slice (some ad) g.rules.length cr] (.slice At2 g.terms.length ct2) (.slice (some adp) pr.length cp) (.slice (some adu) us.length cu) vN (.int .i64 (numIn L g.start)) vR (.slice Af fr.length cf) g pr us (L.map (fun i : Nat => rdOf ByteArray.empty g.nonterms (i : Int))) D rs fr from
                    HR21.out.step (T := fun _ => False) (Ch.of_below (below_alloc (Below.refl _ _) _)) (fun _ h => h.elim) (fun i hi _ => if_neg (by omega)))
                  have HX0 := Aside0.mk (show LBox (fun i => if i = w1.heap.size then 10 else lab i) 10 (w1.alloc (.cells #[.int .i64 (numIn L rx.head), .slice none 0 0, .int .i64 rx.price] 42)) w1.heap.size #[.int .i64 (numIn L rx.head), .slice none 0 0, .int .i64 rx.price] 42 from ⟨blk_new _ _, if_pos rfl⟩)
                  clear HR21 HZ1 b0 b1 b2 hkey lz
                  generalize w1.alloc (.cells #[.int .i64 (numIn L rx.head), .slice none 0 0, .int .i64 rx.price] 42) = W2 at *
                  go_loopw [98] (fun i wr => ∃ (q : Nat) (vB : Value) (lab : Nat → Nat), i = .int .i64 q ∧ q ≤ rx.body.length ∧ Aside0 (R2 w wr lab w3.heap.size w4.heap.size g.nonterms.length #[.slice At g.terms.length ct, .slice An g.nonterms.length cn, .int .i64 g.start, .slice (some ad) g.rules.length cr] (.slice At2 g.terms.length ct2) (.slice (some adp) pr.length cp) (.slice (some adu) us.length cu) vN (.int .i64 (numIn L g.start)) vR (.slice Af fr.length cf) g pr us (L.map (fun i : Nat => rdOf ByteArray.empty g.nonterms (i : Int))) D rs fr) ∧
                    Aside0 (LBox lab 10 wr w1.heap.size #[.int .i64 (numIn L rx.head), vB, .int .i64 rx.price] 42) ∧ Aside0 (LRow lab 9 (Kd.int .i64) 3 wr w.heap.size vB ((rx.body.take q).map (renSym L)))) (fun i _ => rx.body.length - (intOf i).toNat)
                  case atStart => exact ⟨0, _, _, rfl, by omega, HR3, HX0, ⟨LRow.nil _ _ _ _ _ _⟩⟩
                  case round =>
                    clear HR3 HX0
                    obtain ⟨q, vB, lab, rfl, hq, HR2, HX, HB⟩ := hrel
                    obtain ⟨bs, hbs⟩ : ∃ bs, bs = (rx.body.take q).map (renSym L) := ⟨_, rfl⟩
                    rw [← hbs] at HB
                    have hbsl : bs.length ≤ 12 := by rw [hbs, List.length_map, List.length_take]; omega
                    have HBS := Aside0.mk hbs
                    clear hbs
                    obtain ⟨Ab, cb, hbe, _, _⟩ := HB.out.reads
                    subst hbe
                    have x1 : wr.cell? ⟨w1.heap.size, 1, none⟩ = some (.slice Ab bs.length cb) := (HX.out.cell 1).trans rfl
                    by_cases hqt : q < rx.body.length
                    · obtain ⟨ae, e, hx⟩ := at_int HC.out q hqt
                      cases e
                      replace hx := (HR2.out.m.b.cell (World.block_lt_of_cell? w _ hx)).trans hx
                      have HXm := Aside0.mk (rd_mem rx.body q hqt)
                      have HTk := Aside0.mk (show (rx.body.take (q + 1)).map (renSym L) = bs ++ [renSym L (rd rx.body q)] by
                        rw [HBS.out, List.take_succ_eq_append_getElem hqt, rd_nat _ _ hqt, List.map_append]; rfl)
                      generalize hxe : rd rx.body q = x at *
                      clear hxe
                      have lx := HX.out.lt
                      by_cases hneg : x < 0
                      · have hxr := HRk.out.2.2 x HXm.out hneg
                        have HSy := Aside0.mk (show renSym L x = -1 - numIn L (-1 - x) by unfold renSym; rw [if_pos hneg])
                        have hnbd := numIn_bd L (-1 - x)
                        have hkey : keyOf Try.prog 3 (.int .i64 (-1 - x)) = some (.int .i64 (-1 - x)) := Maps.keyOf_int_mk Try.underlying3 (wf_small _ (by omega) (by omega))
                        rw [HSy.out] at HTk
                        go_wp2_with (first
                          | (at_lookup; refine wpList_lookup_own_int _ rfl _ _ 45 rfl 3 3 .i64 lawI Try.underlying45 Try.underlying3 (zeroI _) w3.heap.size g.nonterms.length _ rfl HR2.out.mp _ _ rfl hkey ?_; intro c hat hwc; obtain rfl : c = numIn L (-1 - x) := (by have h1 := HNV.out.at_ (-1 - x); unfold ik at h1; rw [h1] at hat; injection hat with hat; injection hat with hat hat2; exact hat2.symm); clear hat hwc)
                          | (at_builtin; refine lrow_append (Kd.int .i64) lab 9 99 w.heap.size rfl (.tmp 110) (.tmp 112) 28 3 (.int .i64 0) 8 rfl Try.underlying28 info_int rfl (by decide) (by decide) (.slice Ab bs.length cb) bs (-1 - numIn L (-1 - x)) [.int .i64 (-1 - numIn L (-1 - x))] rfl rfl rfl (by decide) HB.out HR2.out.m.b.size (by omega) ?_; intro v1 w7 hr7 hc7; obtain ⟨An3, cn3, hv1, _, _⟩ := hr7.reads; subst hv1; have HR3 := HR2.out.step (lab' := labApp lab wr.heap.size 9 99) hc7 (fun i hi => .inl (by omega)) (fun i hi hlt => labApp_keep hi rfl (by omega)); have hX7 := HX.out.step (lab' := labApp lab wr.heap.size 9 99) hc7 (fun i hi hl => ⟨by omega, labApp_keep hi hl (by omega)⟩); have x7 : w7.cell? ⟨w1.heap.size, 1, none⟩ = some (.slice Ab bs.length cb) := (hX7.cell 1).trans rfl; have f7 := hX7.frozen 1; have l7 := hX7.lt; have hset := (Ch.refl (fun i => i = w1.heap.size) w7).setCell (p := ⟨w1.heap.size, 1, none⟩) (.inl rfl) (.slice An3 (bs ++ [-1 - numIn L (-1 - x)]).length cn3); have HR4 := Aside0.mk (HR3.step (lab' := labApp lab wr.heap.size 9 99) hset (fun i hi => .inl (by rw [hi, hX7.l]; omega)) (fun _ _ _ => rfl)); have HX4 := Aside0.mk (hX7.put 1 (.slice An3 (bs ++ [-1 - numIn L (-1 - x)]).length cn3) rfl); have HB4 := Aside0.mk (hr7.ch hset (fun i _ hl he => by rw [he, hX7.l] at hl; omega)); have hsz : (bs ++ [-1 - numIn L (-1 - x)]).length = bs.length + 1 := (by simp); rw [hsz] at HR4 HX4 HB4; clear hr7 hc7 hX7 HR3 hset x1 lx hsz))
                        go_roundw
                        case rel => exact ⟨q + 1, _, _, by simp, by omega, HR4, HX4, by rw [HTk.out]; exact HB4⟩
                        case measure => simp [intOf]; omega
                      · have HSy := Aside0.mk (show renSym L x = x by unfold renSym; rw [if_neg hneg])
                        rw [HSy.out] at HTk
                        go_wp2_with (first
                          | (at_builtin; refine lrow_append (Kd.int .i64) lab 9 99 w.heap.size rfl (.tmp 110) (.tmp 112) 28 3 (.int .i64 0) 8 rfl Try.underlying28 info_int rfl (by decide) (by decide) (.slice Ab bs.length cb) bs (x) [.int .i64 (x)] rfl rfl rfl (by decide) HB.out HR2.out.m.b.size (by omega) ?_; intro v1 w7 hr7 hc7; obtain ⟨An3, cn3, hv1, _, _⟩ := hr7.reads; subst hv1; have HR3 := HR2.out.step (lab' := labApp lab wr.heap.size 9 99) hc7 (fun i hi => .inl (by omega)) (fun i hi hlt => labApp_keep hi rfl (by omega)); have hX7 := HX.out.step (lab' := labApp lab wr.heap.size 9 99) hc7 (fun i hi hl => ⟨by omega, labApp_keep hi hl (by omega)⟩); have x7 : w7.cell? ⟨w1.heap.size, 1, none⟩ = some (.slice Ab bs.length cb) := (hX7.cell 1).trans rfl; have f7 := hX7.frozen 1; have l7 := hX7.lt; have hset := (Ch.refl (fun i => i = w1.heap.size) w7).setCell (p := ⟨w1.heap.size, 1, none⟩) (.inl rfl) (.slice An3 (bs ++ [x]).length cn3); have HR4 := Aside0.mk (HR3.step (lab' := labApp lab wr.heap.size 9 99) hset (fun i hi => .inl (by rw [hi, hX7.l]; omega)) (fun _ _ _ => rfl)); have HX4 := Aside0.mk (hX7.put 1 (.slice An3 (bs ++ [x]).length cn3) rfl); have HB4 := Aside0.mk (hr7.ch hset (fun i _ hl he => by rw [he, hX7.l] at hl; omega)); have hsz : (bs ++ [x]).length = bs.length + 1 := (by simp); rw [hsz] at HR4 HX4 HB4; clear hr7 hc7 hX7 HR3 hset x1 lx hsz))
                        go_roundw
                        case rel => exact ⟨q + 1, _, _, by simp, by omega, HR4, HX4, by rw [HTk.out]; exact HB4⟩
                        case measure => simp [intOf]; omega
                    · obtain rfl : q = rx.body.length := by omega
                      have HBf := Aside0.mk (show renRul L rx = (⟨numIn L rx.head, bs, rx.price⟩ : Rul) by unfold renRul; rw [HBS.out, List.take_length])
                      have HKR := Aside0.mk (show (keptIdx pr us g.rules (k + 1)).map (fun j : Nat => renRul L (rdOf Rul.zero g.rules (j : Int))) = rs ++ [(⟨numIn L rx.head, bs, rx.price⟩ : Rul)] by
                        rw [HI.out, HRS.out, List.map_append, ← HBf.out, ← HRX.out]; rfl)
                      have HKF := Aside0.mk (show (keptIdx pr us g.rules (k + 1)).map (fun j : Nat => (j : Int)) = fr ++ [(k : Int)] by
                        rw [HI.out, HFR.out, List.map_append]; rfl)
                      obtain ⟨Ar2, cr2, hre, _, _⟩ := HR2.out.r.reads
                      subst hre
                      have o3 : wr.cell? ⟨w4.heap.size, 3, none⟩ = some (.slice Ar2 rs.length cr2) := (HR2.out.m.oB.cell 3).trans rfl
                      have x0 : wr.cell? ⟨w1.heap.size, 0, none⟩ = some (.int .i64 (numIn L rx.head)) := (HX.out.cell 0).trans rfl
                      have x2 : wr.cell? ⟨w1.heap.size, 2, none⟩ = some (.int .i64 rx.price) := (HX.out.cell 2).trans rfl
                      have lo := HR2.out.m.oB.lt
                      have HBM := Aside0.mk (show kRul.M wr w.heap.size (fun k => lab k = 9) (⟨numIn L rx.head, bs, rx.price⟩ : Rul) [.int .i64 (numIn L rx.head), .slice Ab bs.length cb, .int .i64 rx.price] from kRul_mkM (x := (⟨numIn L rx.head, bs, rx.price⟩ : Rul)) (Kd.R_mono HB.out.r (fun k hk => hk.1)))
                      go_wp2_with (first
                        | (at_builtin; refine lrow_append kRul lab 7 9 w.heap.size rfl (.tmp 117) (.tmp 119) 23 42 (.agg #[(.int .i64 0), (.slice none 0 0), (.int .i64 0)]) 40 rfl Try.underlying23 info_rul rfl (by decide) (by decide) (.slice Ar2 rs.length cr2) rs (⟨numIn L rx.head, bs, rx.price⟩ : Rul) [.int .i64 (numIn L rx.head), .slice Ab bs.length cb, .int .i64 rx.price] rfl rfl HBM.out (by decide) HR2.out.r HR2.out.m.b.size (by omega) ?_; intro v1 w7 hr7 hc7; obtain ⟨An3, cn3, hv1, _, _⟩ := hr7.reads; subst hv1; have hob7 := HR2.out.m.oB.step (lab' := labApp lab wr.heap.size 7 9) hc7 (fun i hi hl => ⟨by omega, labApp_keep hi hl (by omega)⟩); have o7 : w7.cell? ⟨w4.heap.size, 3, none⟩ = some (.slice Ar2 rs.length cr2) := (hob7.cell 3).trans rfl; have f7 := hob7.frozen 3; have l7 := hob7.lt; have HRa := Aside0.mk (HR2.out.pushR hc7 hr7); have hsz : (rs ++ [(⟨numIn L rx.head, bs, rx.price⟩ : Rul)]).length = rs.length + 1 := (by simp); rw [hsz] at HRa; clear hr7 hc7 hob7 o3 x0 x1 x2 lo hsz)
                        | (at_builtin; refine lrow_append (Kd.int .i64) _ 8 99 w.heap.size rfl (.tmp 122) (.tmp 124) 28 3 (.int .i64 0) 8 rfl Try.underlying28 info_int rfl (by decide) (by decide) (.slice Af fr.length cf) fr (k : Int) [.int .i64 (k : Int)] rfl (sl_set w7 _ _) rfl (by decide) HRa.out.f HRa.out.m.b.size (by omega) ?_; intro v2 w9 hr9 hc9; obtain ⟨An4, cn4, hv2, _, _⟩ := hr9.reads; subst hv2; have HRb := Aside0.mk (HRa.out.pushF hc9 hr9); have hsz : (fr ++ [(k : Int)]).length = fr.length + 1 := (by simp); rw [hsz] at HRb; clear hr9 hc9 hsz))
                      go_roundw
                      case rel => exact ⟨k + 1, _, _, by simp, by omega, by rw [HKR.out, HKF.out]; exact HRb⟩
                      case measure => simp [intOf]; omega
            · obtain rfl : k = g.rules.length := by omega
              obtain ⟨ns, hns⟩ : ∃ ns, ns = (L.map (fun i : Nat => rdOf ByteArray.empty g.nonterms (i : Int))) := ⟨_, rfl⟩
              rw [← hns] at HR2
              have HNS := Aside0.mk hns
              clear hns
              obtain ⟨Af, cf, hfe, hcf, hfC⟩ := HR2.out.f.reads
              subst hfe
              obtain ⟨An2, cn2, hne, hcn2, hnC⟩ := HR2.out.m.n.reads
              subst hne
              obtain ⟨Ar2, cr2, hre, hcr2, hrC⟩ := HR2.out.r.reads
              subst hre
              obtain ⟨At3, ct3, hte, hct3, htC⟩ := HR2.out.m.t.reads
              cases hte
              have HZ := HR2.out.m.zb.h
              have hset : Ch (fun i => i = w.heap.size + 1) wr ((((wr.setCell ⟨w.heap.size + 1, 0, none⟩ (.slice At2 g.terms.length ct2)).setCell ⟨w.heap.size + 1, 1, none⟩ (.slice An2 ns.length cn2)).setCell ⟨w.heap.size + 1, 2, none⟩ (.int .i64 (numIn L g.start))).setCell ⟨w.heap.size + 1, 3, none⟩ (.slice Ar2 rs.length cr2)) :=
                ((((Ch.refl (fun i => i = w.heap.size + 1) wr).setCell (p := ⟨w.heap.size + 1, 0, none⟩) (.inl rfl) _).setCell (p := ⟨w.heap.size + 1, 1, none⟩) (.inl rfl) _).setCell (p := ⟨w.heap.size + 1, 2, none⟩) (.inl rfl) _).setCell (p := ⟨w.heap.size + 1, 3, none⟩) (.inl rfl) _
              have hz1 := HR2.out.m.zb.l
              have HC4 := Aside0.mk (show ∀ w2, Ch (fun k => k < w.heap.size) ((((wr.setCell ⟨w.heap.size + 1, 0, none⟩ (.slice At2 g.terms.length ct2)).setCell ⟨w.heap.size + 1, 1, none⟩ (.slice An2 ns.length cn2)).setCell ⟨w.heap.size + 1, 2, none⟩ (.int .i64 (numIn L g.start))).setCell ⟨w.heap.size + 1, 3, none⟩ (.slice Ar2 rs.length cr2)) w2 → Kd.C (Kd.int .i64) w2 Af fr.length fr from fun w2 hc9 => by
                obtain ⟨A, c, e, _, hC⟩ := (Row.ch (HR2.out.f.ch hset (fun i _ hl he => by subst he; omega)) hc9 (fun i hi he => by have := hi.2.1; omega)).reads; cases e; exact hC)
              have HC1 := Aside0.mk (show ∀ w2, Ch (fun k => k < w.heap.size) ((((wr.setCell ⟨w.heap.size + 1, 0, none⟩ (.slice At2 g.terms.length ct2)).setCell ⟨w.heap.size + 1, 1, none⟩ (.slice An2 ns.length cn2)).setCell ⟨w.heap.size + 1, 2, none⟩ (.int .i64 (numIn L g.start))).setCell ⟨w.heap.size + 1, 3, none⟩ (.slice Ar2 rs.length cr2)) w2 → Kd.C Kd.string w2 At2 g.terms.length g.terms from fun w2 hc9 => by
                obtain ⟨A, c, e, _, hC⟩ := (Row.ch (HR2.out.m.t.ch hset (fun i _ hl he => by subst he; omega)) hc9 (fun i hi he => by have := hi.2.1; omega)).reads; cases e; exact hC)
              have HC2 := Aside0.mk (show ∀ w2, Ch (fun k => k < w.heap.size) ((((wr.setCell ⟨w.heap.size + 1, 0, none⟩ (.slice At2 g.terms.length ct2)).setCell ⟨w.heap.size + 1, 1, none⟩ (.slice An2 ns.length cn2)).setCell ⟨w.heap.size + 1, 2, none⟩ (.int .i64 (numIn L g.start))).setCell ⟨w.heap.size + 1, 3, none⟩ (.slice Ar2 rs.length cr2)) w2 → Kd.C Kd.string w2 An2 ns.length ns from fun w2 hc9 => by
                obtain ⟨A, c, e, _, hC⟩ := (Row.ch (HR2.out.m.n.ch hset (fun i _ hl he => by subst he; omega)) hc9 (fun i hi he => by have := hi.2.1; omega)).reads; cases e; exact hC)
              have HC3 := Aside0.mk (show ∀ w2, Ch (fun k => k < w.heap.size) ((((wr.setCell ⟨w.heap.size + 1, 0, none⟩ (.slice At2 g.terms.length ct2)).setCell ⟨w.heap.size + 1, 1, none⟩ (.slice An2 ns.length cn2)).setCell ⟨w.heap.size + 1, 2, none⟩ (.int .i64 (numIn L g.start))).setCell ⟨w.heap.size + 1, 3, none⟩ (.slice Ar2 rs.length cr2)) w2 → Kd.C kRul w2 Ar2 rs.length rs from fun w2 hc9 => by
                obtain ⟨A, c, e, _, hC⟩ := (Row.ch (HR2.out.r.ch hset (fun i _ hl he => by subst he; omega)) hc9 (fun i hi he => by have := hi.2.1; omega)).reads; cases e; exact hC)
              have HBL4 := Aside0.mk (below4 HR2.out.m.b (show w.heap.size ≤ w.heap.size + 1 by omega) (.slice At2 g.terms.length ct2) (.slice An2 ns.length cn2) (.int .i64 (numIn L g.start)) (.slice Ar2 rs.length cr2))
              have hz := Aside0.mk (put4 HZ (.slice At2 g.terms.length ct2) (.slice An2 ns.length cn2) (.int .i64 (numIn L g.start)) (.slice Ar2 rs.length cr2))
              have HLE4 := Aside0.mk (show fr.length ≤ cf ∧ ns.length ≤ cn2 ∧ rs.length ≤ cr2 ∧ g.terms.length ≤ ct2 from ⟨hcf, hcn2, hcr2, hct3⟩)
              have f1 := blk_frozen HZ 0
              have f2 := blk_frozen HZ 1
              have f3 := blk_frozen HZ 2
              have f4 := blk_frozen HZ 3
              have z0 : wr.cell? ⟨w.heap.size + 1, 0, none⟩ = some (.slice none 0 0) := (blk_cell HZ 0).trans rfl
              have z1 : wr.cell? ⟨w.heap.size + 1, 1, none⟩ = some (.slice none 0 0) := (blk_cell HZ 1).trans rfl
              have z2 : wr.cell? ⟨w.heap.size + 1, 2, none⟩ = some (.int .i64 0) := (blk_cell HZ 2).trans rfl
              have z3 : wr.cell? ⟨w.heap.size + 1, 3, none⟩ = some (.slice none 0 0) := (blk_cell HZ 3).trans rfl
              have o0 : wr.cell? ⟨w4.heap.size, 0, none⟩ = some (.slice At2 g.terms.length ct2) := (HR2.out.m.oB.cell 0).trans rfl
              have o1 : wr.cell? ⟨w4.heap.size, 1, none⟩ = some (.slice An2 ns.length cn2) := (HR2.out.m.oB.cell 1).trans rfl
              have o2 : wr.cell? ⟨w4.heap.size, 2, none⟩ = some (.int .i64 (numIn L g.start)) := (HR2.out.m.oB.cell 2).trans rfl
              have o3 : wr.cell? ⟨w4.heap.size, 3, none⟩ = some (.slice Ar2 rs.length cr2) := (HR2.out.m.oB.cell 3).trans rfl
              clear HZ hfC hnC hrC htC hset hz1 hcf hcn2 hcr2 hct3
              go_wp2_with fail
              clear f1 f2 f3 f4 z0 z1 z2 z3 o0 o1 o2 o3
              generalize ((((wr.setCell ⟨w.heap.size + 1, 0, none⟩ (.slice At2 g.terms.length ct2)).setCell ⟨w.heap.size + 1, 1, none⟩ (.slice An2 ns.length cn2)).setCell ⟨w.heap.size + 1, 2, none⟩ (.int .i64 (numIn L g.start))).setCell ⟨w.heap.size + 1, 3, none⟩ (.slice Ar2 rs.length cr2)) = W9 at *
              have z0 : W9.cell? ⟨w.heap.size + 1, 0, none⟩ = some (.slice At2 g.terms.length ct2) := (blk_cell hz.out 0).trans rfl
              have z1 : W9.cell? ⟨w.heap.size + 1, 1, none⟩ = some (.slice An2 ns.length cn2) := (blk_cell hz.out 1).trans rfl
              have z2 : W9.cell? ⟨w.heap.size + 1, 2, none⟩ = some (.int .i64 (numIn L g.start)) := (blk_cell hz.out 2).trans rfl
              have z3 : W9.cell? ⟨w.heap.size + 1, 3, none⟩ = some (.slice Ar2 rs.length cr2) := (blk_cell hz.out 3).trans rfl
              refine bodyPost_ret (v := .tuple #[.agg #[.slice At2 g.terms.length ct2, .slice An2 ns.length cn2, .int .i64 (numIn L g.start), .slice Ar2 rs.length cr2], .slice Af fr.length cf, .int .i64 0]) (by simp [results, Try.results10, go_sem, hu, z0, z1, z2, z3]) rfl ?_
              have hres : reduceR g = (⟨g.terms, ns, numIn L g.start, rs⟩, fr, 0) := by
                rw [HR.out, ← HUE.out, HFR.out, HNS.out, HRS.out, HLE.out]; rfl
              rw [hres]
              refine ⟨At2, ct2, An2, cn2, Ar2, cr2, Af, cf, rfl, fun w2 hc9 => ⟨⟨HC1.out w2 hc9, HLE4.out.2.2.2, HC2.out w2 hc9, HLE4.out.2.1, HC3.out w2 hc9, HLE4.out.2.2.1, HG.out.st, ?_⟩, HC4.out w2 hc9⟩, HLE4.out.1, HBL4.out⟩
              intro s hs
              have hs' : s ∈ ns := hs
              rw [HNS.out, HLE.out] at hs'
              obtain ⟨i, hi, rfl⟩ := List.mem_map.1 hs'
              have := useIdx_lt hi
              exact HG.out.sn _ (rdOf_mem _ _ i this)
end Go.Proofs.Ytadednkdhblpfaa.Red
