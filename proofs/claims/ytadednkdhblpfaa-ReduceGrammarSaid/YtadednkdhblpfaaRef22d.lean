/- emendateref22.Reduce, walked: it answers reduceR. -/
import Derived.Test.YtadednkdhblpfaaRef22c
import Derived.Test.YtadednkdhblpfaaRefMem
import Derived.Test.YtadednkdhblpfaaReduce
import Derived.BigRegion
import Derived.Deep.CutRange
import Derived.Deep.RegionHeld3
namespace Go.Proofs.Ytadednkdhblpfaa.Ref
open Go.RowKit Go.Proofs.YtadednkdhblpfaaW.PrintWords Go.Proofs.YtadednkdhblpfaaW.PrintLast Go.Proofs.YtadednkdhblpfaaW.PrintMore Go.Proofs.Ytadednkdhblpfaa.B Go.Proofs.Ytadednkdhblpfaa.Val Go.Proofs.Ytadednkdhblpfaa.Ana Go.Proofs.Ytadednkdhblpfaa.Red
set_option linter.unusedVariables false
set_option linter.unusedSimpArgs false

theorem blk_at {w : World} {cs : Array Value} {t n : Nat} (h : n = w.heap.size) : (w.alloc (.cells cs t)).heap[n]? = some (.cells cs t (0, 0)) := by subst h; exact blk_new _ _
/-- a row of no element, just made -/
theorem R_empty {α : Type} (d : Kd α) (e : Nat) {w : World} {base : Nat} {ok : Nat → Prop} {b : Nat} (hb : base ≤ b) (hok : ok b) (hg : w.heap[b]? = some (.cells #[] e (0, 0))) : Kd.R d e w base ok (.slice (some ⟨b, 0, none⟩) 0 0) [] := by
  refine ⟨fun k hk => ?_, [], ⟨by simp, .inr ⟨b, 0, #[], rfl, hb, hg, Nat.le_refl _, by decide, by simp, by simp⟩⟩, Reps.none _ _⟩
  have : b = k := by simpa [Value.ownBlock] using hk
  subst this; exact hok
noncomputable def cellV (w : World) (a : Addr) : Value := (w.cell? a).getD (.slice none 0 0)
theorem cellV_some {w : World} {a : Addr} {v : Value} (h : w.cell? a = some v) : w.cell? a = some (cellV w a) := by unfold cellV; rw [h]; rfl
theorem set4_ne {W7 wo : World} {b k : Nat} {v0 v1 v2 v3 : Value} (hne : k ≠ b) (h : W7.heap[k]? = wo.heap[k]?) :
    ((((W7.setCell ⟨b, 0, none⟩ v0).setCell ⟨b, 1, none⟩ v1).setCell ⟨b, 2, none⟩ v2).setCell ⟨b, 3, none⟩ v3).heap[k]? = wo.heap[k]? :=
  (Below.heap_setCell _ _ _ _ hne).trans ((Below.heap_setCell _ _ _ _ hne).trans ((Below.heap_setCell _ _ _ _ hne).trans ((Below.heap_setCell _ _ _ _ hne).trans h)))
/-- the result's box may be written and read in a later world -/
theorem box4 {wo w' : World} {b t : Nat} {a0 a1 a2 a3 : Value} (h : wo.heap[b]? = some (.cells #[a0, a1, a2, a3] t (0, 0))) (hb : Below wo.heap.size wo w') :
    (w'.frozen? ⟨b, 0, none⟩ = false ∧ w'.frozen? ⟨b, 1, none⟩ = false ∧ w'.frozen? ⟨b, 2, none⟩ = false ∧ w'.frozen? ⟨b, 3, none⟩ = false) ∧
    w'.cell? ⟨b, 0, none⟩ = some a0 ∧ w'.cell? ⟨b, 1, none⟩ = some a1 ∧ w'.cell? ⟨b, 2, none⟩ = some a2 ∧ w'.cell? ⟨b, 3, none⟩ = some a3 :=
  have h' := blk_below h hb
  ⟨⟨blk_frozen h' 0, blk_frozen h' 1, blk_frozen h' 2, blk_frozen h' 3⟩, (blk_cell h' 0).trans rfl, (blk_cell h' 1).trans rfl, (blk_cell h' 2).trans rfl, (blk_cell h' 3).trans rfl⟩

theorem made_ints (n : Nat) : madeCells #[.int .i64 0] n = ((List.replicate n (0 : Int)).map (Value.int .i64)).toArray := by
  apply Array.ext
  · simp [madeCells]
  · intro i h1 h2
    simp [madeCells, Nat.mod_one]

set_option maxHeartbeats 4000000 in
set_option maxRecDepth 100000 in
theorem reduce22 (g : Gr) (w : World)
    (At : Option Addr) (ct : Nat) (An : Option Addr) (cn : Nat) (Ar : Option Addr) (cr : Nat) (hg : GrC w At ct An cn Ar cr g) :
    Calls Try.prog 11 #[.agg #[.slice At g.terms.length ct, .slice An g.nonterms.length cn, .int .i64 g.start, .slice Ar g.rules.length cr]] w
      (GrPost w (reduceR g)) := by
  have hu := Try.underlying25
  have HG := Aside0.mk hg
  clear hg
  cases hv : validB g with
  | false =>
    have HR := Aside0.mk (show reduceR g = (Gr.zero, [], 1) by unfold reduceR; rw [if_pos hv])
    have HV := Aside0.mk hv
    clear hv
    go_enter Try.func11, Try.ntmps11
    go_wp2_with fail
    generalize hW0 : (w.alloc (.cells #[.slice At g.terms.length ct, .slice An g.nonterms.length cn, .int .i64 g.start, .slice Ar g.rules.length cr] 25)).alloc (.cells #[.slice none 0 0, .slice none 0 0, .int .i64 0, .slice none 0 0] 25) = W0
    have HB0 := Aside0.mk (show Below w.heap.size w W0 by rw [← hW0]; exact ((Below.refl _ _).alloc (Nat.le_refl _) _).alloc (by simp) _)
    have HG0 := Aside0.mk (show W0.heap[w.heap.size]? = some (.cells #[.slice At g.terms.length ct, .slice An g.nonterms.length cn, .int .i64 g.start, .slice Ar g.rules.length cr] 25 (0, 0)) by rw [← hW0]; exact blk_alloc (blk_new w _) _)
    have HZ0 := Aside0.mk (show W0.heap[w.heap.size + 1]? = some (.cells #[.slice none 0 0, .slice none 0 0, .int .i64 0, .slice none 0 0] 25 (0, 0)) by
      rw [← hW0]; have := blk_new (w.alloc (.cells #[.slice At g.terms.length ct, .slice An g.nonterms.length cn, .int .i64 g.start, .slice Ar g.rules.length cr] 25)) (.cells #[.slice none 0 0, .slice none 0 0, .int .i64 0, .slice none 0 0] 25); simpa using this)
    clear hW0
    refine (Ref.valid g W0 At ct An cn Ar cr (HG.out.below HB0.out)).mono ?_
    rintro e w1 ⟨rfl, hb1⟩
    have HB1 := Aside0.mk (HB0.out.trans (hb1.mono HB0.out.size))
    have HG1 := Aside0.mk (blk_below HG0.out hb1)
    have HZ1 := Aside0.mk (blk_below HZ0.out hb1)
    have f1 := blk_frozen HZ1.out 0
    have f2 := blk_frozen HZ1.out 1
    have f3 := blk_frozen HZ1.out 2
    have f4 := blk_frozen HZ1.out 3
    have z0 : w1.cell? ⟨w.heap.size + 1, 0, none⟩ = some (.slice none 0 0) := (blk_cell HZ1.out 0).trans rfl
    have z1 : w1.cell? ⟨w.heap.size + 1, 1, none⟩ = some (.slice none 0 0) := (blk_cell HZ1.out 1).trans rfl
    have z2 : w1.cell? ⟨w.heap.size + 1, 2, none⟩ = some (.int .i64 0) := (blk_cell HZ1.out 2).trans rfl
    have z3 : w1.cell? ⟨w.heap.size + 1, 3, none⟩ = some (.slice none 0 0) := (blk_cell HZ1.out 3).trans rfl
    clear hb1 HB0 HG0 HZ0
    rw [HV.out]
    go_wp2_with fail
    have HB2 := Aside0.mk (below4 HB1.out (show w.heap.size ≤ w.heap.size + 1 by omega) (.slice none 0 0) (.slice none 0 0) (.int .i64 0) (.slice none 0 0))
    have hz := put4 HZ1.out (.slice none 0 0) (.slice none 0 0) (.int .i64 0) (.slice none 0 0)
    clear z0 z1 z2 z3 f1 f2 f3 f4
    generalize ((((w1.setCell ⟨w.heap.size + 1, 0, none⟩ (.slice none 0 0)).setCell ⟨w.heap.size + 1, 1, none⟩ (.slice none 0 0)).setCell ⟨w.heap.size + 1, 2, none⟩ (.int .i64 0)).setCell ⟨w.heap.size + 1, 3, none⟩ (.slice none 0 0)) = W2 at *
    have z0 : W2.cell? ⟨w.heap.size + 1, 0, none⟩ = some (.slice none 0 0) := (blk_cell hz 0).trans rfl
    have z1 : W2.cell? ⟨w.heap.size + 1, 1, none⟩ = some (.slice none 0 0) := (blk_cell hz 1).trans rfl
    have z2 : W2.cell? ⟨w.heap.size + 1, 2, none⟩ = some (.int .i64 0) := (blk_cell hz 2).trans rfl
    have z3 : W2.cell? ⟨w.heap.size + 1, 3, none⟩ = some (.slice none 0 0) := (blk_cell hz 3).trans rfl
    refine bodyPost_ret (v := .tuple #[.agg #[.slice none 0 0, .slice none 0 0, .int .i64 0, .slice none 0 0], .slice none 0 0, .int .i64 1]) (by simp [results, Try.results11, go_sem, hu, z0, z1, z2, z3]) rfl ?_
    rw [HR.out]
    exact ⟨none, 0, none, 0, none, 0, none, 0, rfl, fun w2 _ => ⟨grC_zero _, Kd.C_nil _ _⟩, Nat.le_refl _, HB2.out⟩
  | true =>
    obtain ⟨hro, hst, hn1, hn2, hn3, hn4, hbl, hsy⟩ := rulOk_of_valid hv
    have HRO := Aside0.mk hro
    have HV := Aside0.mk hv
    have HBL := Aside0.mk hbl
    clear hv hro hbl hsy
    go_enter Try.func11, Try.ntmps11
    go_wp2_with fail
    generalize hW0 : (w.alloc (.cells #[.slice At g.terms.length ct, .slice An g.nonterms.length cn, .int .i64 g.start, .slice Ar g.rules.length cr] 25)).alloc (.cells #[.slice none 0 0, .slice none 0 0, .int .i64 0, .slice none 0 0] 25) = W0
    have HB0 := Aside0.mk (show Below w.heap.size w W0 by rw [← hW0]; exact ((Below.refl _ _).alloc (Nat.le_refl _) _).alloc (by simp) _)
    have HG0 := Aside0.mk (show W0.heap[w.heap.size]? = some (.cells #[.slice At g.terms.length ct, .slice An g.nonterms.length cn, .int .i64 g.start, .slice Ar g.rules.length cr] 25 (0, 0)) by rw [← hW0]; exact blk_alloc (blk_new w _) _)
    have HZ0 := Aside0.mk (show W0.heap[w.heap.size + 1]? = some (.cells #[.slice none 0 0, .slice none 0 0, .int .i64 0, .slice none 0 0] 25 (0, 0)) by
      rw [← hW0]; have := blk_new (w.alloc (.cells #[.slice At g.terms.length ct, .slice An g.nonterms.length cn, .int .i64 g.start, .slice Ar g.rules.length cr] 25)) (.cells #[.slice none 0 0, .slice none 0 0, .int .i64 0, .slice none 0 0] 25); simpa using this)
    clear hW0
    refine (Ref.valid g W0 At ct An cn Ar cr (HG.out.below HB0.out)).mono ?_
    rintro e w1 ⟨rfl, hb1⟩
    have HB1 := Aside0.mk (HB0.out.trans (hb1.mono HB0.out.size))
    have HG1 := Aside0.mk (blk_below HG0.out hb1)
    have HZ1 := Aside0.mk (blk_below HZ0.out hb1)
    clear hb1 HB0 HG0 HZ0
    rw [HV.out]
    have g0 : w1.cell? ⟨w.heap.size, 0, none⟩ = some (.slice At g.terms.length ct) := (blk_cell HG1.out 0).trans rfl
    have g1 : w1.cell? ⟨w.heap.size, 1, none⟩ = some (.slice An g.nonterms.length cn) := (blk_cell HG1.out 1).trans rfl
    have g2 : w1.cell? ⟨w.heap.size, 2, none⟩ = some (.int .i64 g.start) := (blk_cell HG1.out 2).trans rfl
    have g3 : w1.cell? ⟨w.heap.size, 3, none⟩ = some (.slice Ar g.rules.length cr) := (blk_cell HG1.out 3).trans rfl
    go_wp2_with fail
    refine (Ref.productive g w1 At ct An cn Ar cr (HG.out.below HB1.out) HRO.out (by omega)).mono ?_
    rintro e w2 ⟨Ap, cp, pr, rfl, hcp, hpl, ho, hr, hpc, hb2⟩
    have HPE := Aside0.mk (HeadsOut.eq ho)
    have HB2 := Aside0.mk (HB1.out.trans (hb2.mono HB1.out.size))
    have HG2 := Aside0.mk (blk_below HG1.out hb2)
    have HZ2 := Aside0.mk (blk_below HZ1.out hb2)
    have HPC := Aside0.mk hpc
    have hs21 : w1.heap.size ≤ w2.heap.size := hb2.size
    have hs1 : w.heap.size + 1 < w1.heap.size := blk_lt HZ1.out
    have HCP := Aside0.mk hcp
    have HPL := Aside0.mk hpl
    clear hr hb2 hpc ho hcp HB1 HG1 HZ1 g0 g1 g2 g3
    have g0 : w2.cell? ⟨w.heap.size, 0, none⟩ = some (.slice At g.terms.length ct) := (blk_cell HG2.out 0).trans rfl
    have g1 : w2.cell? ⟨w.heap.size, 1, none⟩ = some (.slice An g.nonterms.length cn) := (blk_cell HG2.out 1).trans rfl
    have g2 : w2.cell? ⟨w.heap.size, 2, none⟩ = some (.int .i64 g.start) := (blk_cell HG2.out 2).trans rfl
    have g3 : w2.cell? ⟨w.heap.size, 3, none⟩ = some (.slice Ar g.rules.length cr) := (blk_cell HG2.out 3).trans rfl
    obtain ⟨adp, e, hps⟩ := at_bool HPC.out g.start.toNat (by omega)
    cases e
    rw [show ((g.start.toNat : Nat) : Int) = g.start by omega] at hps
    have hsr : 0 ≤ g.start ∧ g.start < (g.nonterms.length : Int) := by omega
    clear hpl
    cases hp : rdOf false pr g.start with
    | false =>
      rw [hp] at hps
      have HR := Aside0.mk (show reduceR g = (Gr.zero, [], 10) by unfold reduceR; rw [if_neg (by rw [HV.out]; simp), if_pos (by rw [← HPE.out]; exact hp)])
      clear hp
      have f1 := blk_frozen HZ2.out 0
      have f2 := blk_frozen HZ2.out 1
      have f3 := blk_frozen HZ2.out 2
      have f4 := blk_frozen HZ2.out 3
      have z0 : w2.cell? ⟨w.heap.size + 1, 0, none⟩ = some (.slice none 0 0) := (blk_cell HZ2.out 0).trans rfl
      have z1 : w2.cell? ⟨w.heap.size + 1, 1, none⟩ = some (.slice none 0 0) := (blk_cell HZ2.out 1).trans rfl
      have z2 : w2.cell? ⟨w.heap.size + 1, 2, none⟩ = some (.int .i64 0) := (blk_cell HZ2.out 2).trans rfl
      have z3 : w2.cell? ⟨w.heap.size + 1, 3, none⟩ = some (.slice none 0 0) := (blk_cell HZ2.out 3).trans rfl
      go_wp2_with fail
      have HB3 := Aside0.mk (below4 HB2.out (show w.heap.size ≤ w.heap.size + 1 by omega) (.slice none 0 0) (.slice none 0 0) (.int .i64 0) (.slice none 0 0))
      have hz := put4 HZ2.out (.slice none 0 0) (.slice none 0 0) (.int .i64 0) (.slice none 0 0)
      clear z0 z1 z2 z3 f1 f2 f3 f4
      generalize ((((w2.setCell ⟨w.heap.size + 1, 0, none⟩ (.slice none 0 0)).setCell ⟨w.heap.size + 1, 1, none⟩ (.slice none 0 0)).setCell ⟨w.heap.size + 1, 2, none⟩ (.int .i64 0)).setCell ⟨w.heap.size + 1, 3, none⟩ (.slice none 0 0)) = W2 at *
      have z0 : W2.cell? ⟨w.heap.size + 1, 0, none⟩ = some (.slice none 0 0) := (blk_cell hz 0).trans rfl
      have z1 : W2.cell? ⟨w.heap.size + 1, 1, none⟩ = some (.slice none 0 0) := (blk_cell hz 1).trans rfl
      have z2 : W2.cell? ⟨w.heap.size + 1, 2, none⟩ = some (.int .i64 0) := (blk_cell hz 2).trans rfl
      have z3 : W2.cell? ⟨w.heap.size + 1, 3, none⟩ = some (.slice none 0 0) := (blk_cell hz 3).trans rfl
      refine bodyPost_ret (v := .tuple #[.agg #[.slice none 0 0, .slice none 0 0, .int .i64 0, .slice none 0 0], .slice none 0 0, .int .i64 10]) (by simp [results, Try.results11, go_sem, hu, z0, z1, z2, z3]) rfl ?_
      rw [HR.out]
      exact ⟨none, 0, none, 0, none, 0, none, 0, rfl, fun w2 _ => ⟨grC_zero _, Kd.C_nil _ _⟩, Nat.le_refl _, HB3.out⟩
    | true =>
      rw [hp] at hps
      have HR := Aside0.mk (show reduceR g = (redG g pr (useL g), (keptIdx pr (useL g) g.rules g.rules.length).map (fun j : Nat => (j : Int)), 0) by
        unfold reduceR; rw [if_neg (by rw [HV.out]; simp), ← HPE.out, if_neg (by rw [hp]; simp)])
      clear hp
      go_wp2_with fail
      refine (Ref.useful g w2 At ct An cn Ar cr (HG.out.below HB2.out) HRO.out hst (by omega)).mono ?_
      rintro e w3 ⟨Au, cu, us, rfl, hcu, hul, ho, hur, huc, hb3⟩
      have HUE := Aside0.mk (UsefulOut.eq ho)
      have HB3 := Aside0.mk (HB2.out.trans (hb3.mono HB2.out.size))
      have HG3 := Aside0.mk (blk_below HG2.out hb3)
      have HZ3 := Aside0.mk (blk_below HZ2.out hb3)
      have HPC3 := Aside0.mk (Kd.C_below HPC.out hb3)
      have HUC := Aside0.mk huc
      have HCU := Aside0.mk hcu
      have HUL := Aside0.mk hul
      have hs3 : w.heap.size + 1 < w3.heap.size := blk_lt HZ3.out
      clear hcu hul ho hur huc hb3 HB2 HG2 HZ2 HPC g0 g1 g2 g3 hps hsr hs21 hs1
      have g1 : w3.cell? ⟨w.heap.size, 1, none⟩ = some (.slice An g.nonterms.length cn) := (blk_cell HG3.out 1).trans rfl
      have hmk := print_make_of (P := Try.prog) 28 3 (.int .i64 0) 8 Try.underlying28 info_int rfl (by omega) g.nonterms.length (by omega)
      obtain ⟨W4, hW4⟩ : ∃ W4, w3.alloc (.cells (madeCells #[.int .i64 0] g.nonterms.length) 3) = W4 := ⟨_, rfl⟩
      obtain ⟨lab0, hlab⟩ : ∃ lab : Nat → Nat, lab = fun k => if k = w3.heap.size then 5 else 0 := ⟨_, rfl⟩
      have HQ0 := Aside0.mk (show QM w3 W4 lab0 w3.heap.size (numL us g.nonterms.length 0) (.slice none 0 0) [] (.slice none 0 0) [] (.slice none 0 0) [] by
        rw [hlab]
        refine ⟨fun k hk => if_neg (by omega), by rw [← hW4]; exact (Below.refl _ _).alloc (Nat.le_refl _) _, ⟨?_, if_pos rfl⟩, LRow.nil _ _ _ _ _ _, LRow.nil _ _ _ _ _ _, LRow.nil _ _ _ _ _ _⟩
        rw [← hW4, numL_zero, ← made_ints]; exact blk_new _ _)
      go_wp2_with fail
      clear hW4 hlab hmk g1
      go_loopw [8, 9] (fun v8 i wr => ∃ (k : Nat) (vN : Value) (lab : Nat → Nat), vN = v8 ∧ i = .int .i64 k ∧ k ≤ g.nonterms.length ∧ Aside0 (QM w3 wr lab w3.heap.size (numL us g.nonterms.length k) vN ((useIdx us k).map (fun i : Nat => rdOf ByteArray.empty g.nonterms (i : Int))) (.slice none 0 0) [] (.slice none 0 0) [])) (fun _ i _ => g.nonterms.length - (intOf i).toNat)
      case atStart => exact ⟨0, _, lab0, rfl, rfl, Nat.zero_le _, HQ0⟩
      case round =>
        clear HQ0
        obtain ⟨k, vN, lab, rfl, rfl, hk, HQ⟩ := hrel
        obtain ⟨wo, rfl⟩ : ∃ wo : World, wo = wr := ⟨_, rfl⟩
        have g1 : wo.cell? ⟨w.heap.size, 1, none⟩ = some (.slice An g.nonterms.length cn) := (blk_cell (blk_below HG3.out HQ.out.b) 1).trans rfl
        by_cases hlt : k < g.nonterms.length
        · have hd : decide ((k : Int) < (g.nonterms.length : Int)) = true := decide_eq_true (by omega)
          have q1 : (k : Int) < (g.nonterms.length : Int) := by omega
          obtain ⟨adu, e, hu1⟩ := at_bool (Kd.C_below HUC.out HQ.out.b) k hlt
          cases e
          obtain ⟨ad, e, hx0⟩ := at_str (Kd.C_below HG.out.nonterms HB3.out) k hlt
          cases e
          have hbk := World.block_lt_of_cell? w3 _ hx0
          have hx := (HQ.out.b.cell hbk).trans hx0
          clear hx0
          cases hu2 : rdOf false us (k : Int) with
          | false =>
            rw [hu2] at hu1
            have HQ2 := Aside0.mk (show QM w3 wo lab w3.heap.size (numL us g.nonterms.length (k + 1)) vN ((useIdx us (k + 1)).map (fun i : Nat => rdOf ByteArray.empty g.nonterms (i : Int))) (.slice none 0 0) [] (.slice none 0 0) [] by
              rw [numL_skip _ hu2, useIdx_succ, hu2]; simpa using HQ.out)
            clear hu2 HQ
            go_wp2_with fail
            go_roundw
            case rel => exact ⟨k + 1, vN, lab, rfl, by simp, by omega, HQ2⟩
            case measure => simp [intOf]; omega
          | true =>
            rw [hu2] at hu1
            have HL1 := Aside0.mk (numL_step g.nonterms.length hu2)
            have HL2 := Aside0.mk (show (useIdx us (k + 1)).map (fun i : Nat => rdOf ByteArray.empty g.nonterms (i : Int)) = (useIdx us k).map (fun i : Nat => rdOf ByteArray.empty g.nonterms (i : Int)) ++ [rdOf ByteArray.empty g.nonterms (k : Int)] by rw [useIdx_succ, hu2, if_pos rfl, List.map_append]; rfl)
            have hkl := useIdx_le us k
            have hnl : ((useIdx us k).map (fun i : Nat => rdOf ByteArray.empty g.nonterms (i : Int))).length = (useIdx us k).length := List.length_map ..
            clear hu2
            generalize (useIdx us k).map (fun i : Nat => rdOf ByteArray.empty g.nonterms (i : Int)) = ns at *
            obtain ⟨An2, cn2, hne, _, _⟩ := HQ.out.n.reads
            subst hne
            have hcell := HQ.out.num_cell k (by rw [numL_len]; exact hlt)
            have hfz := HQ.out.num.frozen k
            have hlz := HQ.out.num.lt
            have HQ1 := HQ.out.putNum k (ns.length : Int)
            obtain ⟨W5, hW5⟩ : ∃ W5, wo.setCell ⟨w3.heap.size, k, none⟩ (.int .i64 (ns.length : Int)) = W5 := ⟨_, rfl⟩
            have hL1 := HL1.out
            rw [← hnl] at hL1
            rw [hW5, ← hL1] at HQ1
            clear hL1 HL1
            have hnb : ns.length ≤ 120 := by omega
            clear hnl hkl
            have g1' : W5.cell? ⟨w.heap.size, 1, none⟩ = some (.slice (some ad) g.nonterms.length cn) := (blk_cell (blk_below HG3.out HQ1.b) 1).trans rfl
            have hx' : W5.cell? (ad.add k) = some (.string (rdOf ByteArray.empty g.nonterms (k : Int))) := by
              have := HQ.out.b.cell hbk
              rw [hx] at this
              exact (HQ1.b.cell hbk).trans this.symm
            have HQ2 := Aside0.mk HQ1
            clear HQ1 HQ
            go_wp2_with (first
              | (at_builtin; refine lrow_append Kd.string lab 6 99 w3.heap.size rfl (.tmp 52) (.tmp 58) 22 9 (.string ⟨#[]⟩) 16 rfl Try.underlying22 info_str rfl (by decide) (by decide) (.slice An2 ns.length cn2) ns (rdOf ByteArray.empty g.nonterms (k : Int)) [.string (rdOf ByteArray.empty g.nonterms (k : Int))] rfl rfl rfl (by decide) HQ2.out.n HQ2.out.b.size (by omega) ?_; intro v1 w7 hr7 hc7; have HQ7 := Aside0.mk (HQ2.out.pushN hc7 hr7); clear hr7 hc7))
            go_roundw
            case rel => exact ⟨k + 1, v1, _, rfl, by simp, by omega, by rw [HL2.out]; exact HQ7⟩
            case measure => simp [intOf]; omega
        · obtain rfl : k = g.nonterms.length := by omega
          obtain ⟨L, hL⟩ : ∃ L, useIdx us g.nonterms.length = L := ⟨_, rfl⟩
          have HNM := Aside0.mk (show ∀ j : Int, 0 ≤ j → j < g.nonterms.length → rd (numL us g.nonterms.length g.nonterms.length) j = numIn L j from fun j h0 h1 => by rw [rd_numL _ _ _ h0 h1, hL])
          have hnml := numL_len us g.nonterms.length g.nonterms.length
          rw [hL] at HQ
          have HLE := Aside0.mk hL
          have HLb := Aside0.mk (show L.length ≤ g.nonterms.length by rw [← hL]; exact useIdx_le _ _)
          clear hL
          generalize numL us g.nonterms.length g.nonterms.length = NM at *
          obtain ⟨ns, hns⟩ : ∃ ns, L.map (fun i : Nat => rdOf ByteArray.empty g.nonterms (i : Int)) = ns := ⟨_, rfl⟩
          rw [hns] at HQ
          have HNS := Aside0.mk hns
          clear hns
          obtain ⟨An2, cn2, hne, _, _⟩ := HQ.out.n.reads
          subst hne
          have HNL := Aside0.mk hnml
          clear hnml
          go_wp2_with fail
          clear g1 hk hlt
          go_loopw [10, 11, 12] (fun v10 v11 i wr => ∃ (k : Nat) (vR vF : Value) (lab : Nat → Nat), vR = v10 ∧ vF = v11 ∧ i = .int .i64 k ∧ k ≤ g.rules.length ∧ Aside0 (QM w3 wr lab w3.heap.size NM (.slice An2 ns.length cn2) ns vR ((keptIdx pr us g.rules k).map (fun j : Nat => renRul L (rdOf Rul.zero g.rules (j : Int)))) vF ((keptIdx pr us g.rules k).map (fun j : Nat => (j : Int))))) (fun _ _ i _ => g.rules.length - (intOf i).toNat)
          case atStart => exact ⟨0, _, _, lab, rfl, rfl, rfl, Nat.zero_le _, HQ⟩
          case round =>
            clear HQ
            obtain ⟨k, vR, vF, lab, rfl, rfl, rfl, hk, HQ⟩ := hrel
            obtain ⟨wo, rfl⟩ : ∃ wo : World, wo = wr := ⟨_, rfl⟩
            have g3 : wo.cell? ⟨w.heap.size, 3, none⟩ = some (.slice Ar g.rules.length cr) := (blk_cell (blk_below HG3.out HQ.out.b) 3).trans rfl
            by_cases hlt : k < g.rules.length
            · obtain ⟨adr, A1, c1, e, h1, h2, h3, hl, hc⟩ := at_rul (HG.out.below HB3.out).rules k hlt
              cases e
              replace h1 := (HQ.out.b.cell (World.block_lt_of_cell? w3 _ h1)).trans h1
              replace h2 := (HQ.out.b.cell (World.block_lt_of_cell? w3 _ h2)).trans h2
              replace h3 := (HQ.out.b.cell (World.block_lt_of_cell? w3 _ h3)).trans h3
              have HC := Aside0.mk hc
              have HLc := Aside0.mk hl
              have HMem := Aside0.mk (rdOf_mem Rul.zero g.rules k hlt)
              have hd : decide ((k : Int) < (g.rules.length : Int)) = true := decide_eq_true (by omega)
              have q1 : (k : Int) < (g.rules.length : Int) := by omega
              have HKS := Aside0.mk (keptIdx_succ pr us g.rules k)
              have hfl : ((keptIdx pr us g.rules k).map (fun j : Nat => (j : Int))).length ≤ k := by rw [List.length_map]; exact keptIdx_le _ _ _ _
              have hrl : ((keptIdx pr us g.rules k).map (fun j : Nat => renRul L (rdOf Rul.zero g.rules (j : Int)))).length ≤ k := by rw [List.length_map]; exact keptIdx_le _ _ _ _
              obtain ⟨fr, hfr⟩ : ∃ fr, (keptIdx pr us g.rules k).map (fun j : Nat => (j : Int)) = fr := ⟨_, rfl⟩
              obtain ⟨rs, hrs⟩ : ∃ rs, (keptIdx pr us g.rules k).map (fun j : Nat => renRul L (rdOf Rul.zero g.rules (j : Int))) = rs := ⟨_, rfl⟩
              rw [hfr, hrs] at HQ
              rw [hfr] at hfl
              rw [hrs] at hrl
              have HFR := Aside0.mk hfr
              have HRS := Aside0.mk hrs
              clear hc hl hfr hrs
              generalize hrx : rdOf Rul.zero g.rules k = rx at *
              have HRX := Aside0.mk hrx
              clear hrx
              have hro := HRO.out _ HMem.out
              have hh0 := hro.1
              have hh1 := hro.2.1
              have hbl := HBL.out _ HMem.out
              have HRk := Aside0.mk hro
              clear hro
              obtain ⟨adu, e, hus⟩ := at_bool (Kd.C_below HUC.out HQ.out.b) rx.head.toNat (by omega)
              cases e
              rw [show ((rx.head.toNat : Nat) : Int) = rx.head by omega] at hus
              have hur : 0 ≤ rx.head ∧ rx.head < (g.nonterms.length : Int) := ⟨hh0, hh1⟩
              have hub := World.block_lt_of_cell? wo _ hus
              obtain ⟨Ar2, cr2, hre, _, _⟩ := HQ.out.r.reads
              subst hre
              obtain ⟨Af, cf, hfe, _, _⟩ := HQ.out.f.reads
              subst hfe
              obtain ⟨W5, hW5⟩ : ∃ W5, wo.alloc (.cells #[.int .i64 rx.head, .slice A1 rx.body.length c1, .int .i64 rx.price] 42) = W5 := ⟨_, rfl⟩
              have HX5 := Aside0.mk (show W5.heap[wo.heap.size]? = some (.cells #[.int .i64 rx.head, .slice A1 rx.body.length c1, .int .i64 rx.price] 42 (0, 0)) by rw [← hW5]; exact blk_new _ _)
              have HQ5 := Aside0.mk (show QM w3 W5 lab w3.heap.size NM (.slice An2 ns.length cn2) ns (.slice Ar2 rs.length cr2) rs (.slice Af fr.length cf) fr by rw [← hW5]; exact HQ.out.below (below_alloc (Below.refl _ _) _))
              have HQR := Aside0.mk (show QM w3 W5 (fun i => if i = wo.heap.size then 10 else lab i) w3.heap.size NM (.slice An2 ns.length cn2) ns (.slice Ar2 rs.length cr2) rs (.slice Af fr.length cf) fr by
                rw [← hW5]; exact HQ.out.step (T := fun _ => False) (Ch.of_below (below_alloc (Below.refl _ _) _)) (fun _ h => h.elim) (fun i hi _ => if_neg (by omega)))
              have hus5 : W5.cell? (adu.add rx.head.toNat) = some (.bool (rdOf false us rx.head)) := by rw [← hW5]; exact ((below_alloc (Below.refl wo.heap.size wo) _).cell hub).trans hus
              have b0 : W5.cell? ⟨wo.heap.size, 0, none⟩ = some (.int .i64 rx.head) := (blk_cell HX5.out 0).trans rfl
              have b1 : W5.cell? ⟨wo.heap.size, 1, none⟩ = some (.slice A1 rx.body.length c1) := (blk_cell HX5.out 1).trans rfl
              have b2 : W5.cell? ⟨wo.heap.size, 2, none⟩ = some (.int .i64 rx.price) := (blk_cell HX5.out 2).trans rfl
              clear hus HQ
              cases hu1 : rdOf false us rx.head with
              | false =>
                rw [hu1] at hus5
                have HI := Aside0.mk (show keptIdx pr us g.rules (k + 1) = keptIdx pr us g.rules k by rw [HKS.out]; unfold keeps; rw [hu1]; simp)
                clear hu1
                go_wp2_with fail
                go_roundw
                case rel => exact ⟨k + 1, _, _, lab, rfl, rfl, by simp, by omega, by rw [HI.out, HRS.out, HFR.out]; exact HQ5⟩
                case measure => simp [intOf]; omega
              | true =>
                rw [hu1] at hus5
                have HU1 := Aside0.mk hu1
                clear hu1
                have key : ∀ (Q : Ending → World → Prop), Q (.returned (.bool (worksB pr rx.body))) W5 → Calls Try.prog 24 #[.slice (some adp) g.nonterms.length cp, .slice A1 rx.body.length c1] W5 Q := fun Q hQ => by
                  have hp1 := productive1 (some adp) cp pr A1 c1 rx.body W5 (by rw [HPL.out]; exact Kd.C_below HPC3.out HQ5.out.b) (by rw [HPL.out]; exact HCP.out) (Kd.C_below HC.out HQ5.out.b) HLc.out (fun x hx hneg => by rw [HPL.out]; exact HRk.out.2.2 x hx hneg)
                  rw [HPL.out] at hp1
                  refine hp1.mono ?_
                  rintro e w' ⟨rfl, rfl⟩
                  exact hQ
                have HK := Aside0.mk key
                clear key
                cases hw : worksB pr rx.body with
                | false =>
                  have HW := Aside0.mk hw
                  have HI := Aside0.mk (show keptIdx pr us g.rules (k + 1) = keptIdx pr us g.rules k by rw [HKS.out]; unfold keeps; rw [HU1.out, hw]; simp)
                  clear hw
                  go_wp2_with fail
                  refine HK.out _ ?_
                  rw [HW.out]
                  go_wp2_with fail
                  go_roundw
                  case rel => exact ⟨k + 1, _, _, lab, rfl, rfl, by simp, by omega, by rw [HI.out, HRS.out, HFR.out]; exact HQ5⟩
                  case measure => simp [intOf]; omega
                | true =>
                  have HW := Aside0.mk hw
                  have HI := Aside0.mk (show keptIdx pr us g.rules (k + 1) = keptIdx pr us g.rules k ++ [k] by rw [HKS.out]; unfold keeps; rw [HU1.out, hw]; simp)
                  clear hw
                  have hbm : rx.body.length ≤ 9223372036854775807 := HC.out.2.1
                  go_wp2_with fail
                  refine HK.out _ ?_
                  rw [HW.out]
                  go_wp2_with fail
                  clear h1 h2 h3 hus5 hW5 g3 b0 b1 b2 HK
                  have HQ6 := Aside0.mk (show QM w3 W5 (fun i => if i = wo.heap.size then 10 else lab i) w3.heap.size NM (.slice An2 ns.length cn2) ns (.slice Ar2 rs.length cr2) rs (.slice Af fr.length cf) fr from HQR.out)
                  have HX6 := Aside0.mk (show LBox (fun i => if i = wo.heap.size then 10 else lab i) 10 W5 wo.heap.size #[.int .i64 rx.head, .slice A1 rx.body.length c1, .int .i64 rx.price] 42 from ⟨HX5.out, if_pos rfl⟩)
                  clear HQ5 HX5
                  go_loopw [14, 15] (fun v14 i wr => ∃ (q : Nat) (vB : Value) (lab : Nat → Nat), vB = v14 ∧ i = .int .i64 q ∧ q ≤ rx.body.length ∧ Aside0 (QM w3 wr lab w3.heap.size NM (.slice An2 ns.length cn2) ns (.slice Ar2 rs.length cr2) rs (.slice Af fr.length cf) fr) ∧
                    Aside0 (LBox lab 10 wr wo.heap.size #[.int .i64 rx.head, .slice A1 rx.body.length c1, .int .i64 rx.price] 42) ∧ Aside0 (LRow lab 9 (Kd.int .i64) 3 wr w3.heap.size vB ((rx.body.take q).map (renSym L)))) (fun _ i _ => rx.body.length - (intOf i).toNat)
                  case atStart => exact ⟨0, _, _, rfl, rfl, by omega, HQ6, HX6, ⟨LRow.nil _ _ _ _ _ _⟩⟩
                  case round =>
                    clear HQ6 HX6
                    obtain ⟨q, vB, lab, rfl, rfl, hq, HQ, HX, HB⟩ := hrel
                    obtain ⟨wp, rfl⟩ : ∃ wp : World, wp = wr := ⟨_, rfl⟩
                    obtain ⟨bs, hbs⟩ : ∃ bs, (rx.body.take q).map (renSym L) = bs := ⟨_, rfl⟩
                    rw [hbs] at HB
                    have hbsl : bs.length ≤ 12 := by rw [← hbs, List.length_map, List.length_take]; omega
                    have HBS := Aside0.mk hbs
                    clear hbs
                    obtain ⟨Ab, cb, hbe, _, _⟩ := HB.out.reads
                    subst hbe
                    have x1 : wp.cell? ⟨wo.heap.size, 1, none⟩ = some (.slice A1 rx.body.length c1) := (HX.out.cell 1).trans rfl
                    by_cases hqt : q < rx.body.length
                    · obtain ⟨ae, e, hx⟩ := at_int (Kd.C_below HC.out HQ.out.b) q hqt
                      cases e
                      have hd2 : decide ((q : Int) < (rx.body.length : Int)) = true := decide_eq_true (by omega)
                      have q2 : (q : Int) < (rx.body.length : Int) := by omega
                      have HXm := Aside0.mk (rd_mem rx.body q hqt)
                      have HTk := Aside0.mk (show (rx.body.take (q + 1)).map (renSym L) = bs ++ [renSym L (rd rx.body q)] by
                        rw [← HBS.out, List.take_succ_eq_append_getElem hqt, List.map_append, rd_nat _ _ hqt]; rfl)
                      generalize hxe : rd rx.body q = x at *
                      clear hxe
                      by_cases hneg : x < 0
                      · have hxr := HRk.out.2.2 x HXm.out hneg
                        have HSy := Aside0.mk (show renSym L x = -1 - numIn L (-1 - x) by unfold renSym; rw [if_pos hneg])
                        have hnbd := numIn_bd L (-1 - x)
                        have hLb := HLb.out
                        have hd3 : decide (x < 0) = true := decide_eq_true hneg
                        have hnc := HQ.out.num_cell (-1 - x).toNat (by rw [HNL.out]; omega)
                        rw [show (((-1 - x).toNat : Nat) : Int) = -1 - x by omega, HNM.out _ (by omega) (by omega)] at hnc
                        have hb2 : 0 ≤ -1 - x ∧ -1 - x < (g.nonterms.length : Int) := by omega
                        rw [HSy.out] at HTk
                        go_wp2_with (first
                          | (at_builtin; refine lrow_append (Kd.int .i64) lab 9 99 w3.heap.size rfl (.tmp 105) (.tmp 107) 28 3 (.int .i64 0) 8 rfl Try.underlying28 info_int rfl (by decide) (by decide) (.slice Ab bs.length cb) bs (-1 - numIn L (-1 - x)) [.int .i64 (-1 - numIn L (-1 - x))] rfl rfl rfl (by decide) HB.out HQ.out.b.size (by omega) ?_; intro v1 w7 hr7 hc7; have HQ7 := Aside0.mk (HQ.out.step (lab' := labApp lab wp.heap.size 9 99) hc7 (fun i hi => .inl (by omega)) (fun i hi hlt => labApp_keep hi rfl (by omega))); have HX7 := Aside0.mk (HX.out.step (lab' := labApp lab wp.heap.size 9 99) hc7 (fun i hi hl => ⟨by omega, labApp_keep hi hl (by omega)⟩)); have HB7 := Aside0.mk hr7; clear hr7 hc7))
                        go_roundw
                        case rel => exact ⟨q + 1, v1, _, rfl, by simp, by omega, HQ7, HX7, by rw [HTk.out]; exact HB7⟩
                        case measure => simp [intOf]; omega
                      · have HSy := Aside0.mk (show renSym L x = x by unfold renSym; rw [if_neg hneg])
                        have hd3 : decide (x < 0) = false := decide_eq_false hneg
                        rw [HSy.out] at HTk
                        go_wp2_with (first
                          | (at_builtin; refine lrow_append (Kd.int .i64) lab 9 99 w3.heap.size rfl (.tmp 105) (.tmp 107) 28 3 (.int .i64 0) 8 rfl Try.underlying28 info_int rfl (by decide) (by decide) (.slice Ab bs.length cb) bs x [.int .i64 x] rfl rfl rfl (by decide) HB.out HQ.out.b.size (by omega) ?_; intro v1 w7 hr7 hc7; have HQ7 := Aside0.mk (HQ.out.step (lab' := labApp lab wp.heap.size 9 99) hc7 (fun i hi => .inl (by omega)) (fun i hi hlt => labApp_keep hi rfl (by omega))); have HX7 := Aside0.mk (HX.out.step (lab' := labApp lab wp.heap.size 9 99) hc7 (fun i hi hl => ⟨by omega, labApp_keep hi hl (by omega)⟩)); have HB7 := Aside0.mk hr7; clear hr7 hc7))
                        go_roundw
                        case rel => exact ⟨q + 1, v1, _, rfl, by simp, by omega, HQ7, HX7, by rw [HTk.out]; exact HB7⟩
                        case measure => simp [intOf]; omega
                    · obtain rfl : q = rx.body.length := by omega
                      have HBf := Aside0.mk (show renRul L rx = (⟨numIn L rx.head, bs, rx.price⟩ : Rul) by
                        unfold renRul; rw [← HBS.out, List.take_length])
                      obtain ⟨lab1, hl1, hl2⟩ : ∃ lab1 : Nat → Nat, (∀ i, wp.heap.size ≤ i → lab1 i = 98) ∧ (∀ i, i < wp.heap.size → lab1 i = lab i) := ⟨fun i => if wp.heap.size ≤ i then 98 else lab i, fun i hi => if_pos hi, fun i hi => if_neg (by omega)⟩
                      have HQP := Aside0.mk (show QX w3 wp lab1 w3.heap.size NM (.slice An2 ns.length cn2) ns (.slice Ar2 rs.length cr2) rs (.slice Af fr.length cf) fr wo.heap.size rx.head (.slice A1 rx.body.length c1) rx.price from
                        ⟨HQ.out.step (T := fun _ => False) (Ch.refl _ _) (fun _ h => h.elim) (fun i hi _ => hl2 i hi), HX.out.step (T := fun _ => False) (Ch.refl _ _) (fun i hi hl => ⟨id, by rw [hl2 i hi]; exact hl⟩)⟩)
                      have HBP := Aside0.mk (HB.out.relab (lab' := lab1) (fun i hi hl => by rw [hl2 i hi]; exact hl))
                      have HL1 := Aside0.mk hl1
                      have hhn : rx.head.toNat < NM.length := by rw [HNL.out]; omega
                      have hhc : rd NM (rx.head.toNat : Nat) = numIn L rx.head := by rw [show ((rx.head.toNat : Nat) : Int) = rx.head by omega]; exact HNM.out _ hh0 hh1
                      have HHN := Aside0.mk hhn
                      have HHC := Aside0.mk hhc
                      obtain ⟨y0, y2, yn⟩ := HQP.out.cells rx.head.toNat (numIn L rx.head) hhn hhc
                      clear HQ HX HB hl1 hl2 hhn hhc
                      go_upto_region 30 with fail
                      have HKR := Aside0.mk (show (keptIdx pr us g.rules (k + 1)).map (fun j : Nat => renRul L (rdOf Rul.zero g.rules (j : Int))) = rs ++ [(⟨numIn L rx.head, bs, rx.price⟩ : Rul)] by
                        rw [HI.out, List.map_append, HRS.out, ← HBf.out, ← HRX.out]; rfl)
                      have HKF := Aside0.mk (show (keptIdx pr us g.rules (k + 1)).map (fun j : Nat => (j : Int)) = fr ++ [(k : Int)] by
                        rw [HI.out, List.map_append, HFR.out]; rfl)
                      go_region_held3 (fun w' => w'.cell? ⟨wo.heap.size, 0, none⟩ = some (.int .i64 rx.head) ∧ w'.cell? ⟨wo.heap.size, 2, none⟩ = some (.int .i64 rx.price) ∧ w'.cell? ⟨w3.heap.size, rx.head.toNat, none⟩ = some (.int .i64 (numIn L rx.head)))
                        (first
                          | exact (HQ9.out.below (by repeat (first | exact Below.refl _ _ | apply below_alloc | apply below_drew1))).cells _ _ HHN.out HHC.out
                          | exact (HQ8.out.below (by repeat (first | exact Below.refl _ _ | apply below_alloc | apply below_drew1))).cells _ _ HHN.out HHC.out
                          | exact (HQ7.out.below (by repeat (first | exact Below.refl _ _ | apply below_alloc | apply below_drew1))).cells _ _ HHN.out HHC.out
                          | exact (HQP.out.below (by repeat (first | exact Below.refl _ _ | apply below_alloc | apply below_drew1))).cells _ _ HHN.out HHC.out)
                        (first
                          | (refine lrow_append_step kRul _ 7 9 w3.heap.size (by rfl) (.tmp 109) (.tmp 119) 23 42 (.agg #[(.int .i64 0), (.slice none 0 0), (.int .i64 0)]) 40 rfl Try.underlying23 info_rul rfl (by decide) (by decide) (.slice Ar2 rs.length cr2) rs (⟨numIn L rx.head, bs, rx.price⟩ : Rul) [.int .i64 (numIn L rx.head), .slice Ab bs.length cb, .int .i64 rx.price] _ 42 rfl rfl (by first | exact blk_new _ _ | exact KC8.out _ _ (by first | exact blk_new _ _ | exact blk_at (by simp) | exact blk_alloc (blk_new _ _) _) (by refine fun hh => absurd ((HL1.out _ ?_).symm.trans hh) (by decide); simp)) (kRul_mkM (x := (⟨numIn L rx.head, bs, rx.price⟩ : Rul)) (Kd.R_mono (HB8.out.below (by repeat (first | exact Below.refl _ _ | apply below_alloc | apply below_drew1))).r (fun k hk => hk.1))) (by decide) (HQ8.out.below (by repeat (first | exact Below.refl _ _ | apply below_alloc | apply below_drew1))).m.r (by first | exact HQ8.out.m.b.size | exact Nat.le_trans HQ8.out.m.b.size (Below.size (by repeat (first | exact Below.refl _ _ | apply below_alloc | apply below_drew1)))) (by omega) ?_; intro v7 w7 hr7 hc7; have HQ9 := Aside0.mk ((HQ8.out.below (by repeat (first | exact Below.refl _ _ | apply below_alloc | apply below_drew1))).pushR hc7 hr7); have KC7 := Aside0.mk (fun b o h hn => hc7.blk (b := b) (o := o) h hn); clear hr7 hc7)
                          | (refine lrow_append_step kRul lab1 7 9 w3.heap.size (by rfl) (.tmp 109) (.tmp 119) 23 42 (.agg #[(.int .i64 0), (.slice none 0 0), (.int .i64 0)]) 40 rfl Try.underlying23 info_rul rfl (by decide) (by decide) (.slice Ar2 rs.length cr2) rs (⟨numIn L rx.head, bs, rx.price⟩ : Rul) [.int .i64 (numIn L rx.head), .slice Ab bs.length cb, .int .i64 rx.price] _ 42 rfl rfl (by first | exact blk_new _ _ | exact blk_at (by simp) | exact blk_alloc (blk_new _ _) _) (kRul_mkM (x := (⟨numIn L rx.head, bs, rx.price⟩ : Rul)) (Kd.R_mono (HBP.out.below (by repeat (first | exact Below.refl _ _ | apply below_alloc | apply below_drew1))).r (fun k hk => hk.1))) (by decide) (HQP.out.below (by repeat (first | exact Below.refl _ _ | apply below_alloc | apply below_drew1))).m.r (by first | exact HQP.out.m.b.size | exact Nat.le_trans HQP.out.m.b.size (Below.size (by repeat (first | exact Below.refl _ _ | apply below_alloc | apply below_drew1)))) (by omega) ?_; intro v7 w7 hr7 hc7; have HQ7 := Aside0.mk ((HQP.out.below (by repeat (first | exact Below.refl _ _ | apply below_alloc | apply below_drew1))).pushR hc7 hr7); have KC7 := Aside0.mk (fun b o h hn => hc7.blk (b := b) (o := o) h hn); clear hr7 hc7)
                          | (refine lrow_append_step (Kd.int .i64) _ 8 99 w3.heap.size (by rfl) (.tmp 121) (.tmp 123) 28 3 (.int .i64 0) 8 rfl Try.underlying28 info_int rfl (by decide) (by decide) (.slice Af fr.length cf) fr (k : Int) [.int .i64 (k : Int)] _ 3 rfl rfl ?hxb rfl (by decide) (HQ7.out.below (by repeat (first | exact Below.refl _ _ | apply below_alloc | apply below_drew1))).m.f (by first | exact HQ7.out.m.b.size | exact Nat.le_trans HQ7.out.m.b.size (Below.size (by repeat (first | exact Below.refl _ _ | apply below_alloc | apply below_drew1)))) (by omega) ?_; (case hxb => first | exact blk_new _ _ | (refine KC7.out _ _ ?_ ?_; (first | exact blk_new _ _ | exact blk_at (by simp) | exact blk_alloc (blk_new _ _) _); (refine fun hh => absurd ((HL1.out _ ?_).symm.trans hh) (by decide); simp))); intro v8 w8 hr8 hc8; have HQ9 := Aside0.mk ((HQ7.out.below (by repeat (first | exact Below.refl _ _ | apply below_alloc | apply below_drew1))).pushF hc8 hr8); have KC8 := Aside0.mk (fun b o h hn => hc8.blk (b := b) (o := o) h hn); clear hr8 hc8)
                          | (refine lrow_append_step (Kd.int .i64) lab1 8 99 w3.heap.size (by rfl) (.tmp 121) (.tmp 123) 28 3 (.int .i64 0) 8 rfl Try.underlying28 info_int rfl (by decide) (by decide) (.slice Af fr.length cf) fr (k : Int) [.int .i64 (k : Int)] _ 3 rfl rfl (by first | exact blk_new _ _ | exact blk_at (by simp) | exact blk_alloc (blk_new _ _) _) rfl (by decide) (HQP.out.below (by repeat (first | exact Below.refl _ _ | apply below_alloc | apply below_drew1))).m.f (by first | exact HQP.out.m.b.size | exact Nat.le_trans HQP.out.m.b.size (Below.size (by repeat (first | exact Below.refl _ _ | apply below_alloc | apply below_drew1)))) (by omega) ?_; intro v8 w8 hr8 hc8; have HQ8 := Aside0.mk ((HQP.out.below (by repeat (first | exact Below.refl _ _ | apply below_alloc | apply below_drew1))).pushF hc8 hr8); have HB8 := Aside0.mk ((HBP.out.below (by repeat (first | exact Below.refl _ _ | apply below_alloc | apply below_drew1))).step (lab' := labApp lab1 _ 8 99) hc8 (fun i hi hl => ⟨by omega, labApp_keep hi hl (by omega)⟩)); have KC8 := Aside0.mk (fun b o h hn => hc8.blk (b := b) (o := o) h hn); clear hr8 hc8) | fail "none of the arms")
                      all_goals
                        go_wp2_with fail
                        go_roundw
                        case rel => exact ⟨k + 1, _, _, _, rfl, rfl, by simp, by omega, by rw [HKR.out, HKF.out]; exact ⟨HQ9.out.m⟩⟩
                        case measure => simp [intOf]; omega
            · obtain rfl : k = g.rules.length := by omega
              obtain ⟨rs, hrs⟩ : ∃ rs, (keptIdx pr us g.rules g.rules.length).map (fun j : Nat => renRul L (rdOf Rul.zero g.rules (j : Int))) = rs := ⟨_, rfl⟩
              obtain ⟨fr, hfr⟩ : ∃ fr, (keptIdx pr us g.rules g.rules.length).map (fun j : Nat => (j : Int)) = fr := ⟨_, rfl⟩
              rw [hrs, hfr] at HQ
              have hres := Aside0.mk (show reduceR g = (⟨g.terms, ns, numIn L g.start, rs⟩, fr, 0) by
                rw [HR.out, ← HUE.out, ← hfr, ← HNS.out, ← hrs, ← HLE.out]; rfl)
              clear hfr hrs
              obtain ⟨Af, cf, hfe, hcf, _⟩ := HQ.out.f.reads
              subst hfe
              obtain ⟨Ar2, cr2, hre, hcr2, _⟩ := HQ.out.r.reads
              subst hre
              obtain ⟨An9, cn9, hne, hcn2, _⟩ := HQ.out.n.reads
              cases hne
              have HLEN := Aside0.mk (show fr.length ≤ cf ∧ ns.length ≤ cn2 ∧ rs.length ≤ cr2 from ⟨hcf, hcn2, hcr2⟩)
              clear hcf hcn2 hcr2
              have HGB := Aside0.mk (blk_below HG3.out HQ.out.b)
              have HZB := Aside0.mk (blk_below HZ3.out HQ.out.b)
              have HTC := Aside0.mk (Kd.C_below (HG.out.below HB3.out).terms HQ.out.b)
              have HBW := Aside0.mk (HB3.out.trans (HQ.out.b.mono HB3.out.size))
              have s3 := Aside0.mk HQ.out.b.size
              have g0 : wo.cell? ⟨w.heap.size, 0, none⟩ = some (.slice At g.terms.length ct) := (blk_cell HGB.out 0).trans rfl
              have g2 : wo.cell? ⟨w.heap.size, 2, none⟩ = some (.int .i64 g.start) := (blk_cell HGB.out 2).trans rfl
              have hnc := HQ.out.num_cell g.start.toNat (by rw [HNL.out]; omega)
              rw [show ((g.start.toNat : Nat) : Int) = g.start by omega, HNM.out _ (by omega) (by omega)] at hnc
              have hq : 0 ≤ g.start ∧ g.start < (g.nonterms.length : Int) := hst
              have hb1 : w.heap.size < wo.heap.size := blk_lt HGB.out
              have hb2 := HQ.out.num.lt
              have hnm : g.start.toNat < NM.length := by rw [HNL.out]; omega
              have hb2 := HQ.out.num.lt
              have hw3 : w.heap.size + 1 < w3.heap.size := blk_lt HZ3.out
              have HK3 := Aside0.mk (show ∀ (W' : World) (a0 a1 a2 a3 : Value), W'.heap[w.heap.size]? = wo.heap[w.heap.size]? → W'.heap[w3.heap.size]? = wo.heap[w3.heap.size]? → W'.heap[w.heap.size + 1]? = some (.cells #[a0, a1, a2, a3] 25 (0, 0)) → (W'.frozen? ⟨w.heap.size + 1, 0, none⟩ = false ∧ W'.frozen? ⟨w.heap.size + 1, 1, none⟩ = false ∧ W'.frozen? ⟨w.heap.size + 1, 2, none⟩ = false ∧ W'.frozen? ⟨w.heap.size + 1, 3, none⟩ = false) ∧ (W'.cell? ⟨w.heap.size, 0, none⟩ = some (.slice At g.terms.length ct) ∧ W'.cell? ⟨w.heap.size, 2, none⟩ = some (.int .i64 g.start) ∧ W'.cell? ⟨w3.heap.size, g.start.toNat, none⟩ = some (.int .i64 (numIn L g.start))) ∧ W'.cell? ⟨w.heap.size + 1, 0, none⟩ = some (cellV W' ⟨w.heap.size + 1, 0, none⟩) ∧ W'.cell? ⟨w.heap.size + 1, 1, none⟩ = some (cellV W' ⟨w.heap.size + 1, 1, none⟩) ∧ W'.cell? ⟨w.heap.size + 1, 2, none⟩ = some (cellV W' ⟨w.heap.size + 1, 2, none⟩) ∧ W'.cell? ⟨w.heap.size + 1, 3, none⟩ = some (cellV W' ⟨w.heap.size + 1, 3, none⟩) from
                fun W' a0 a1 a2 a3 e1 e2 e3 => ⟨⟨blk_frozen e3 0, blk_frozen e3 1, blk_frozen e3 2, blk_frozen e3 3⟩, ⟨(blk_cell (e1.trans HGB.out) 0).trans rfl, (blk_cell (e1.trans HGB.out) 2).trans rfl, (blk_cell (e2.trans HQ.out.num.h) _).trans ((blk_cell HQ.out.num.h _).symm.trans hnc)⟩, cellV_some ((blk_cell e3 0).trans rfl), cellV_some ((blk_cell e3 1).trans rfl), cellV_some ((blk_cell e3 2).trans rfl), cellV_some ((blk_cell e3 3).trans rfl)⟩)
              have HK4 := Aside0.mk (show ∀ W' : World, Below wo.heap.size wo W' → (W'.frozen? ⟨w.heap.size + 1, 0, none⟩ = false ∧ W'.frozen? ⟨w.heap.size + 1, 1, none⟩ = false ∧ W'.frozen? ⟨w.heap.size + 1, 2, none⟩ = false ∧ W'.frozen? ⟨w.heap.size + 1, 3, none⟩ = false) ∧ (W'.cell? ⟨w.heap.size, 0, none⟩ = some (.slice At g.terms.length ct) ∧ W'.cell? ⟨w.heap.size, 2, none⟩ = some (.int .i64 g.start) ∧ W'.cell? ⟨w3.heap.size, g.start.toNat, none⟩ = some (.int .i64 (numIn L g.start))) ∧ W'.cell? ⟨w.heap.size + 1, 0, none⟩ = some (cellV W' ⟨w.heap.size + 1, 0, none⟩) ∧ W'.cell? ⟨w.heap.size + 1, 1, none⟩ = some (cellV W' ⟨w.heap.size + 1, 1, none⟩) ∧ W'.cell? ⟨w.heap.size + 1, 2, none⟩ = some (cellV W' ⟨w.heap.size + 1, 2, none⟩) ∧ W'.cell? ⟨w.heap.size + 1, 3, none⟩ = some (cellV W' ⟨w.heap.size + 1, 3, none⟩) from
                fun W' hb => HK3.out W' _ _ _ _ (hb.block _ (by omega)) (hb.block _ hb2) ((hb.block _ (by omega)).trans HZB.out))
              have HK5 := Aside0.mk (show ∀ (W7 : World) (v0 v1 v2 v3 : Value), Below wo.heap.size wo W7 → (((((W7.setCell ⟨w.heap.size + 1, 0, none⟩ v0).setCell ⟨w.heap.size + 1, 1, none⟩ v1).setCell ⟨w.heap.size + 1, 2, none⟩ v2).setCell ⟨w.heap.size + 1, 3, none⟩ v3).frozen? ⟨w.heap.size + 1, 0, none⟩ = false ∧ ((((W7.setCell ⟨w.heap.size + 1, 0, none⟩ v0).setCell ⟨w.heap.size + 1, 1, none⟩ v1).setCell ⟨w.heap.size + 1, 2, none⟩ v2).setCell ⟨w.heap.size + 1, 3, none⟩ v3).frozen? ⟨w.heap.size + 1, 1, none⟩ = false ∧ ((((W7.setCell ⟨w.heap.size + 1, 0, none⟩ v0).setCell ⟨w.heap.size + 1, 1, none⟩ v1).setCell ⟨w.heap.size + 1, 2, none⟩ v2).setCell ⟨w.heap.size + 1, 3, none⟩ v3).frozen? ⟨w.heap.size + 1, 2, none⟩ = false ∧ ((((W7.setCell ⟨w.heap.size + 1, 0, none⟩ v0).setCell ⟨w.heap.size + 1, 1, none⟩ v1).setCell ⟨w.heap.size + 1, 2, none⟩ v2).setCell ⟨w.heap.size + 1, 3, none⟩ v3).frozen? ⟨w.heap.size + 1, 3, none⟩ = false) ∧ (((((W7.setCell ⟨w.heap.size + 1, 0, none⟩ v0).setCell ⟨w.heap.size + 1, 1, none⟩ v1).setCell ⟨w.heap.size + 1, 2, none⟩ v2).setCell ⟨w.heap.size + 1, 3, none⟩ v3).cell? ⟨w.heap.size, 0, none⟩ = some (.slice At g.terms.length ct) ∧ ((((W7.setCell ⟨w.heap.size + 1, 0, none⟩ v0).setCell ⟨w.heap.size + 1, 1, none⟩ v1).setCell ⟨w.heap.size + 1, 2, none⟩ v2).setCell ⟨w.heap.size + 1, 3, none⟩ v3).cell? ⟨w.heap.size, 2, none⟩ = some (.int .i64 g.start) ∧ ((((W7.setCell ⟨w.heap.size + 1, 0, none⟩ v0).setCell ⟨w.heap.size + 1, 1, none⟩ v1).setCell ⟨w.heap.size + 1, 2, none⟩ v2).setCell ⟨w.heap.size + 1, 3, none⟩ v3).cell? ⟨w3.heap.size, g.start.toNat, none⟩ = some (.int .i64 (numIn L g.start))) ∧ ((((W7.setCell ⟨w.heap.size + 1, 0, none⟩ v0).setCell ⟨w.heap.size + 1, 1, none⟩ v1).setCell ⟨w.heap.size + 1, 2, none⟩ v2).setCell ⟨w.heap.size + 1, 3, none⟩ v3).cell? ⟨w.heap.size + 1, 0, none⟩ = some (cellV ((((W7.setCell ⟨w.heap.size + 1, 0, none⟩ v0).setCell ⟨w.heap.size + 1, 1, none⟩ v1).setCell ⟨w.heap.size + 1, 2, none⟩ v2).setCell ⟨w.heap.size + 1, 3, none⟩ v3) ⟨w.heap.size + 1, 0, none⟩) ∧ ((((W7.setCell ⟨w.heap.size + 1, 0, none⟩ v0).setCell ⟨w.heap.size + 1, 1, none⟩ v1).setCell ⟨w.heap.size + 1, 2, none⟩ v2).setCell ⟨w.heap.size + 1, 3, none⟩ v3).cell? ⟨w.heap.size + 1, 1, none⟩ = some (cellV ((((W7.setCell ⟨w.heap.size + 1, 0, none⟩ v0).setCell ⟨w.heap.size + 1, 1, none⟩ v1).setCell ⟨w.heap.size + 1, 2, none⟩ v2).setCell ⟨w.heap.size + 1, 3, none⟩ v3) ⟨w.heap.size + 1, 1, none⟩) ∧ ((((W7.setCell ⟨w.heap.size + 1, 0, none⟩ v0).setCell ⟨w.heap.size + 1, 1, none⟩ v1).setCell ⟨w.heap.size + 1, 2, none⟩ v2).setCell ⟨w.heap.size + 1, 3, none⟩ v3).cell? ⟨w.heap.size + 1, 2, none⟩ = some (cellV ((((W7.setCell ⟨w.heap.size + 1, 0, none⟩ v0).setCell ⟨w.heap.size + 1, 1, none⟩ v1).setCell ⟨w.heap.size + 1, 2, none⟩ v2).setCell ⟨w.heap.size + 1, 3, none⟩ v3) ⟨w.heap.size + 1, 2, none⟩) ∧ ((((W7.setCell ⟨w.heap.size + 1, 0, none⟩ v0).setCell ⟨w.heap.size + 1, 1, none⟩ v1).setCell ⟨w.heap.size + 1, 2, none⟩ v2).setCell ⟨w.heap.size + 1, 3, none⟩ v3).cell? ⟨w.heap.size + 1, 3, none⟩ = some (cellV ((((W7.setCell ⟨w.heap.size + 1, 0, none⟩ v0).setCell ⟨w.heap.size + 1, 1, none⟩ v1).setCell ⟨w.heap.size + 1, 2, none⟩ v2).setCell ⟨w.heap.size + 1, 3, none⟩ v3) ⟨w.heap.size + 1, 3, none⟩) from
                fun W7 v0 v1 v2 v3 hb => HK3.out _ v0 v1 v2 v3 (set4_ne (by simp) (hb.block _ (by omega))) (set4_ne (by simp; omega) (hb.block _ hb2)) (put4 ((hb.block _ (by omega)).trans HZB.out) v0 v1 v2 v3))
              go_upto_region 31 with fail
              go_region_held3 (fun w' => (w'.frozen? ⟨w.heap.size + 1, 0, none⟩ = false ∧ w'.frozen? ⟨w.heap.size + 1, 1, none⟩ = false ∧ w'.frozen? ⟨w.heap.size + 1, 2, none⟩ = false ∧ w'.frozen? ⟨w.heap.size + 1, 3, none⟩ = false) ∧ (w'.cell? ⟨w.heap.size, 0, none⟩ = some (.slice At g.terms.length ct) ∧ w'.cell? ⟨w.heap.size, 2, none⟩ = some (.int .i64 g.start) ∧ w'.cell? ⟨w3.heap.size, g.start.toNat, none⟩ = some (.int .i64 (numIn L g.start))) ∧ w'.cell? ⟨w.heap.size + 1, 0, none⟩ = some (cellV w' ⟨w.heap.size + 1, 0, none⟩) ∧ w'.cell? ⟨w.heap.size + 1, 1, none⟩ = some (cellV w' ⟨w.heap.size + 1, 1, none⟩) ∧ w'.cell? ⟨w.heap.size + 1, 2, none⟩ = some (cellV w' ⟨w.heap.size + 1, 2, none⟩) ∧ w'.cell? ⟨w.heap.size + 1, 3, none⟩ = some (cellV w' ⟨w.heap.size + 1, 3, none⟩))
                (first
                  | exact HK4.out _ HB7.out
                  | exact HK5.out _ (.slice At2 g.terms.length ct2) (.slice An2 ns.length cn2) (.int .i64 (numIn L g.start)) (.slice Ar2 rs.length cr2) HB7.out
                  | (have hb7 := HB7.out; exact HK4.out _ (below_drew1 hb7))
                  | (have hb7 := HB7.out; exact HK5.out _ (.slice At2 g.terms.length ct2) (.slice An2 ns.length cn2) (.int .i64 (numIn L g.start)) (.slice Ar2 rs.length cr2) (below_drew1 hb7))
                  | (refine HK4.out _ ?_; (repeat (first | exact Below.refl _ _ | apply below_alloc | apply below_drew1)); done)
                  | fail "keep")
                (first
                  | (refine Kd.R_append_rows_step Kd.string (w0 := wo) wo.heap.size (by rfl) (.tmp 125) (.tmp 127) 22 9 (.string ⟨#[]⟩) 16 rfl Try.underlying22 info_strR rfl (by decide) (by decide) (.slice (some ⟨wo.heap.size, 0, none⟩) 0 0) ([] : List ByteArray) g.terms At g.terms.length ct (fun _ => True) (fun _ => False) rfl rfl (R_empty Kd.string _ (Nat.le_refl _) trivial (by exact blk_new _ _)) (Kd.C_below HTC.out (by repeat (first | exact Below.refl _ _ | apply below_alloc | apply below_drew1))) (fun _ _ h => h) (fun _ h => h.elim) (fun _ _ => trivial) (by repeat (first | exact Below.refl _ _ | apply below_alloc | apply below_drew1)) (Below.size (B := wo.heap.size) (by repeat (first | exact Below.refl _ _ | apply below_alloc | apply below_drew1))) (by simp; omega) ?_; intro v7 w7 hr7 hb7 _ _; have HB7 := Aside0.mk hb7; rw [List.nil_append] at hr7; have HT7 := Aside0.mk hr7; obtain ⟨At2, ct2, hte, hct2, _⟩ := Kd.R_reads hr7; subst hte; have HCT := Aside0.mk hct2; clear hr7 hb7 hct2)
                  | fail "none of the arms")
              go_wp2_with fail
              have hq7 := HQ.out.below HB7.out
              have hs7 := HB7.out.size
              have hs3 := s3.out
              obtain ⟨W9, hW9⟩ : ∃ W9, ((((w7.setCell ⟨w.heap.size + 1, 0, none⟩ (.slice At2 g.terms.length ct2)).setCell ⟨w.heap.size + 1, 1, none⟩ (.slice An2 ns.length cn2)).setCell ⟨w.heap.size + 1, 2, none⟩ (.int .i64 (numIn L g.start))).setCell ⟨w.heap.size + 1, 3, none⟩ (.slice Ar2 rs.length cr2)) = W9 := ⟨_, rfl⟩
              rw [hW9]
              have hset : Ch (fun i => i = w.heap.size + 1) w7 W9 := by
                rw [← hW9]
                exact ((((Ch.refl (fun i => i = w.heap.size + 1) w7).setCell (p := ⟨w.heap.size + 1, 0, none⟩) (.inl rfl) _).setCell (p := ⟨w.heap.size + 1, 1, none⟩) (.inl rfl) _).setCell (p := ⟨w.heap.size + 1, 2, none⟩) (.inl rfl) _).setCell (p := ⟨w.heap.size + 1, 3, none⟩) (.inl rfl) _
              have hz : W9.heap[w.heap.size + 1]? = some (.cells #[.slice At2 g.terms.length ct2, .slice An2 ns.length cn2, .int .i64 (numIn L g.start), .slice Ar2 rs.length cr2] 25 (0, 0)) := by
                rw [← hW9]; exact put4 ((HB7.out.block _ (by omega)).trans HZB.out) (.slice At2 g.terms.length ct2) (.slice An2 ns.length cn2) (.int .i64 (numIn L g.start)) (.slice Ar2 rs.length cr2)
              have hbl4 : Below w.heap.size w W9 := by
                rw [← hW9]; exact below4 (HBW.out.trans (HB7.out.mono HBW.out.size)) (show w.heap.size ≤ w.heap.size + 1 by omega) (.slice At2 g.terms.length ct2) (.slice An2 ns.length cn2) (.int .i64 (numIn L g.start)) (.slice Ar2 rs.length cr2)
              have HC4 := Aside0.mk (show ∀ w2, Ch (fun k => k < w.heap.size) W9 w2 → Kd.C (Kd.int .i64) w2 Af fr.length fr from fun w2 hc9 => by
                obtain ⟨A, c, e, _, hC⟩ := (Row.ch (hq7.f.ch hset (fun i _ hl he => by subst he; have := hq7.old (w.heap.size + 1) (by omega); omega)) hc9 (fun i hi he => by have := hi.2.1; omega)).reads; cases e; exact hC)
              have HC1 := Aside0.mk (show ∀ w2, Ch (fun k => k < w.heap.size) W9 w2 → Kd.C Kd.string w2 At2 g.terms.length g.terms from fun w2 hc9 => by
                obtain ⟨A, c, e, _, hC⟩ := (Row.ch ((Row.of_R HT7.out).ch hset (fun i hi he => by subst he; have := hi.2.1; omega)) hc9 (fun i hi he => by have := hi.2.1; omega)).reads; cases e; exact hC)
              have HC2 := Aside0.mk (show ∀ w2, Ch (fun k => k < w.heap.size) W9 w2 → Kd.C Kd.string w2 An2 ns.length ns from fun w2 hc9 => by
                obtain ⟨A, c, e, _, hC⟩ := (Row.ch (hq7.n.ch hset (fun i _ hl he => by subst he; have := hq7.old (w.heap.size + 1) (by omega); omega)) hc9 (fun i hi he => by have := hi.2.1; omega)).reads; cases e; exact hC)
              have HC3 := Aside0.mk (show ∀ w2, Ch (fun k => k < w.heap.size) W9 w2 → Kd.C kRul w2 Ar2 rs.length rs from fun w2 hc9 => by
                obtain ⟨A, c, e, _, hC⟩ := (Row.ch (hq7.r.ch hset (fun i _ hl he => by subst he; have := hq7.old (w.heap.size + 1) (by omega); omega)) hc9 (fun i hi he => by have := hi.2.1; omega)).reads; cases e; exact hC)
              have z0 : W9.cell? ⟨w.heap.size + 1, 0, none⟩ = some (.slice At2 g.terms.length ct2) := (blk_cell hz 0).trans rfl
              have z1 : W9.cell? ⟨w.heap.size + 1, 1, none⟩ = some (.slice An2 ns.length cn2) := (blk_cell hz 1).trans rfl
              have z2 : W9.cell? ⟨w.heap.size + 1, 2, none⟩ = some (.int .i64 (numIn L g.start)) := (blk_cell hz 2).trans rfl
              have z3 : W9.cell? ⟨w.heap.size + 1, 3, none⟩ = some (.slice Ar2 rs.length cr2) := (blk_cell hz 3).trans rfl
              refine bodyPost_ret (v := .tuple #[.agg #[.slice At2 g.terms.length ct2, .slice An2 ns.length cn2, .int .i64 (numIn L g.start), .slice Ar2 rs.length cr2], .slice Af fr.length cf, .int .i64 0]) (by simp [results, Try.results11, go_sem, hu, z0, z1, z2, z3]) rfl ?_
              rw [hres.out]
              refine ⟨At2, ct2, An2, cn2, Ar2, cr2, Af, cf, rfl, fun w2 hc9 => ⟨⟨HC1.out w2 hc9, HCT.out, HC2.out w2 hc9, HLEN.out.2.1, HC3.out w2 hc9, HLEN.out.2.2, HG.out.st, ?_⟩, HC4.out w2 hc9⟩, HLEN.out.1, hbl4⟩
              intro s hs
              have hs' : s ∈ ns := hs
              rw [← HNS.out] at hs'
              obtain ⟨i, hi, rfl⟩ := List.mem_map.1 hs'
              rw [← HLE.out] at hi
              have := useIdx_lt hi
              exact HG.out.sn _ (rdOf_mem _ _ i this)
end Go.Proofs.Ytadednkdhblpfaa.Ref
