/- emendatelaw22.ReduceFrom, walked. -/
import Derived.Test.YtadednkdhblpfaaIdem
import Derived.Test.YtadednkdhblpfaaFromFacts
import Derived.BigRegion
import Derived.Deep.CutRange
import Derived.Deep.RegionHeld3
namespace Go.Proofs.Ytadednkdhblpfaa.Law
open Go.RowKit Go.Proofs.YtadednkdhblpfaaW.PrintWords Go.Proofs.YtadednkdhblpfaaW.PrintLast Go.Proofs.YtadednkdhblpfaaW.PrintMore Go.Proofs.Ytadednkdhblpfaa.B Go.Proofs.Ytadednkdhblpfaa.Val Go.Proofs.Ytadednkdhblpfaa.Ana Go.Proofs.Ytadednkdhblpfaa.Red Go.Proofs.Ytadednkdhblpfaa.Ref
set_option linter.unusedVariables false
set_option linter.unusedSimpArgs false

set_option maxHeartbeats 4000000 in
set_option maxRecDepth 100000 in
theorem from_law (g : Gr) (w : World) (hM : MaxL w)
    (At : Option Addr) (ct : Nat) (An : Option Addr) (cn : Nat) (Ar : Option Addr) (cr : Nat) (hg : GrC w At ct An cn Ar cr g) :
    Calls Try.prog 6 #[.agg #[.slice At g.terms.length ct, .slice An g.nonterms.length cn, .int .i64 g.start, .slice Ar g.rules.length cr]] w (LawPost w) := by
  have HG := Aside0.mk hg
  have HM := Aside0.mk hM
  clear hg hM
  obtain ⟨W, hW⟩ : ∃ W, w.alloc (.cells #[.slice At g.terms.length ct, .slice An g.nonterms.length cn, .int .i64 g.start, .slice Ar g.rules.length cr] 25) = W := ⟨_, rfl⟩
  have HZ := Aside0.mk (show W.heap[w.heap.size]? = some (.cells #[.slice At g.terms.length ct, .slice An g.nonterms.length cn, .int .i64 g.start, .slice Ar g.rules.length cr] 25 (0, 0)) by rw [← hW]; exact blk_new _ _)
  have HB := Aside0.mk (show Below w.heap.size w W by rw [← hW]; exact (Below.refl _ _).alloc (Nat.le_refl _) _)
  have z0 : W.cell? ⟨w.heap.size, 0, none⟩ = some (.slice At g.terms.length ct) := (blk_cell HZ.out 0).trans rfl
  have z1 : W.cell? ⟨w.heap.size, 1, none⟩ = some (.slice An g.nonterms.length cn) := (blk_cell HZ.out 1).trans rfl
  have z2 : W.cell? ⟨w.heap.size, 2, none⟩ = some (.int .i64 g.start) := (blk_cell HZ.out 2).trans rfl
  have z3 : W.cell? ⟨w.heap.size, 3, none⟩ = some (.slice Ar g.rules.length cr) := (blk_cell HZ.out 3).trans rfl
  go_enter Try.func6, Try.ntmps6
  go_wp2_with fail
  refine (few g 40 W At ct An cn Ar cr (HG.out.below HB.out)).mono ?_
  rintro e w1 ⟨b, rfl, hb1⟩
  have HB1 := Aside0.mk (HB.out.trans (hb1.mono HB.out.size))
  have HZ1 := Aside0.mk (blk_below HZ.out hb1)
  clear z0 z1 z2 z3 hb1 hW HB HZ
  cases b with
  | false =>
    go_wp2_with fail
    refine (awake w1 (maxL_below HM.out HB1.out)).mono ?_
    rintro e w2 ⟨rfl, hb2⟩
    have HB2 := Aside0.mk (HB1.out.trans (hb2.mono HB1.out.size))
    clear hb2
    go_wp2_with fail
    go_ret
    exact ⟨rfl, HB2.out⟩
  | true =>
    have z0 : w1.cell? ⟨w.heap.size, 0, none⟩ = some (.slice At g.terms.length ct) := (blk_cell HZ1.out 0).trans rfl
    have z1 : w1.cell? ⟨w.heap.size, 1, none⟩ = some (.slice An g.nonterms.length cn) := (blk_cell HZ1.out 1).trans rfl
    have z2 : w1.cell? ⟨w.heap.size, 2, none⟩ = some (.int .i64 g.start) := (blk_cell HZ1.out 2).trans rfl
    have z3 : w1.cell? ⟨w.heap.size, 3, none⟩ = some (.slice Ar g.rules.length cr) := (blk_cell HZ1.out 3).trans rfl
    go_wp2_with fail
    refine (reduce g w1 (maxL_below HM.out HB1.out) At ct An cn Ar cr (HG.out.below HB1.out)).mono ?_
    rcases reduceR_cases g with hr | hr | hr
    case inl =>
      rw [hr.1]
      rintro e w2 ⟨Bt, dt, Bn, dn, Br, dr, Bf, df, rfl, hg2, hl2, hb2⟩
      have HB2 := Aside0.mk (HB1.out.trans (hb2.mono HB1.out.size))
      clear hb2 z0 z1 z2 z3 hg2 hl2 hr
      go_wp2_with fail
      refine (awake _ (maxL_below HM.out (HB2.out.alloc HB2.out.size _))).mono ?_
      rintro e w3 ⟨rfl, hb3⟩
      have HB3 := Aside0.mk ((HB2.out.alloc HB2.out.size _).trans (hb3.mono (by simp; have := HB2.out.size; omega)))
      clear hb3
      go_wp2_with fail
      go_ret
      exact ⟨rfl, HB3.out⟩
    case inr.inl =>
      rw [hr.1]
      rintro e w2 ⟨Bt, dt, Bn, dn, Br, dr, Bf, df, rfl, hg2, hl2, hb2⟩
      have HB2 := Aside0.mk (HB1.out.trans (hb2.mono HB1.out.size))
      clear hb2 z0 z1 z2 z3 hg2 hl2 hr
      go_wp2_with fail
      refine (awake _ (maxL_below HM.out (HB2.out.alloc HB2.out.size _))).mono ?_
      rintro e w3 ⟨rfl, hb3⟩
      have HB3 := Aside0.mk ((HB2.out.alloc HB2.out.size _).trans (hb3.mono (by simp; have := HB2.out.size; omega)))
      clear hb3
      go_wp2_with fail
      go_ret
      exact ⟨rfl, HB3.out⟩
    case inr.inr =>
      rw [hr.1]
      have HFO := Aside0.mk hr.2.from_
      rintro e w2 ⟨Bt, dt, Bn, dn, Br, dr, Bf, df, rfl, hg2, hl2, hb2⟩
      have HB2 := Aside0.mk (HB1.out.trans (hb2.mono HB1.out.size))
      have HZ2 := Aside0.mk (blk_below HZ1.out hb2)
      have HG2 := Aside0.mk (show GrC w2 Bt dt Bn dn Br dr (rG g) from (hg2 w2 (Ch.refl _ _)).1)
      have HF2 := Aside0.mk (hg2 w2 (Ch.refl _ _)).2
      clear hb2 z0 z1 z2 z3 hg2 hl2 hr
      generalize (keptIdx (prL g) (useL g) g.rules g.rules.length).map (fun j : Nat => (j : Int)) = fr at *
      generalize rG g = r at *
      -- the rows lie somewhere
      obtain ⟨an, rfl⟩ : ∃ an, An = some an := by
        obtain ⟨ad, e, _⟩ := at_str HG.out.nonterms g.start.toNat (by have := HFO.out.gs; omega)
        exact ⟨ad, e⟩
      obtain ⟨bn, rfl⟩ : ∃ bn, Bn = some bn := by
        obtain ⟨ad, e, _⟩ := at_str HG2.out.nonterms r.start.toNat (by have := HFO.out.rs; omega)
        exact ⟨ad, e⟩
      have HV := Aside0.mk HFO.out.valid
      obtain ⟨br, rfl⟩ : ∃ br, Br = some br := by
        obtain ⟨ad, A1, c1, e, _⟩ := at_rul HG2.out.rules 0 (by
          have := HV.out; unfold validB at this; simp only [Bool.and_eq_true, decide_eq_true_eq] at this; have := this.1.1.2; omega)
        exact ⟨ad, e⟩
      obtain ⟨ar, rfl⟩ : ∃ ar, Ar = some ar := by
        obtain ⟨ad, A1, c1, e, _⟩ := at_rul HG.out.rules 0 (by
          have h1 : 0 < fr.length := by
            have := HV.out; unfold validB at this; simp only [Bool.and_eq_true, decide_eq_true_eq] at this; have := this.1.1.2; have := HFO.out.len; omega
          have := HFO.out.bd 0 h1; omega)
        exact ⟨ad, e⟩
      obtain ⟨W2, hW2⟩ : ∃ W2, w2.alloc (.cells #[.slice Bt r.terms.length dt, .slice (some bn) r.nonterms.length dn, .int .i64 r.start, .slice (some br) r.rules.length dr] 25) = W2 := ⟨_, rfl⟩
      have HR2 := Aside0.mk (show W2.heap[w2.heap.size]? = some (.cells #[.slice Bt r.terms.length dt, .slice (some bn) r.nonterms.length dn, .int .i64 r.start, .slice (some br) r.rules.length dr] 25 (0, 0)) by rw [← hW2]; exact blk_new _ _)
      have hb : Below w2.heap.size w2 W2 := by rw [← hW2]; exact below_alloc (Below.refl _ _) _
      have HB3 := Aside0.mk (HB2.out.trans (hb.mono HB2.out.size))
      have HZ3 := Aside0.mk (blk_below HZ2.out hb)
      have HG3 := Aside0.mk (HG2.out.below hb)
      have HF3 := Aside0.mk (Kd.C_below HF2.out hb)
      have hgs := HFO.out.gs
      have hrs := HFO.out.rs
      clear HG2 HF2 HZ2 HZ1 hb HB2
      have KZ := Aside0.mk (show ∀ cur, Below W2.heap.size W2 cur → (cur.cell? ⟨w2.heap.size, 0, none⟩ = some (.slice Bt r.terms.length dt) ∧ cur.cell? ⟨w2.heap.size, 1, none⟩ = some (.slice (some bn) r.nonterms.length dn) ∧ cur.cell? ⟨w2.heap.size, 2, none⟩ = some (.int .i64 r.start) ∧ cur.cell? ⟨w2.heap.size, 3, none⟩ = some (.slice (some br) r.rules.length dr)) ∧ (cur.cell? ⟨w.heap.size, 0, none⟩ = some (.slice At g.terms.length ct) ∧ cur.cell? ⟨w.heap.size, 1, none⟩ = some (.slice (some an) g.nonterms.length cn) ∧ cur.cell? ⟨w.heap.size, 2, none⟩ = some (.int .i64 g.start) ∧ cur.cell? ⟨w.heap.size, 3, none⟩ = some (.slice (some ar) g.rules.length cr)) ∧ GrC cur Bt dt (some bn) dn (some br) dr r ∧ GrC cur At ct (some an) cn (some ar) cr g ∧ Kd.C (Kd.int .i64) cur Bf fr.length fr from fun cur hb =>
        have h := blk_below HR2.out hb
        have k := blk_below HZ3.out hb
        ⟨⟨(blk_cell h 0).trans rfl, (blk_cell h 1).trans rfl, (blk_cell h 2).trans rfl, (blk_cell h 3).trans rfl⟩, ⟨(blk_cell k 0).trans rfl, (blk_cell k 1).trans rfl, (blk_cell k 2).trans rfl, (blk_cell k 3).trans rfl⟩, HG3.out.below hb, (HG.out.below HB3.out).below hb, Kd.C_below HF3.out hb⟩)
      have KB := Aside0.mk (show w2.heap.size < W2.heap.size ∧ w.heap.size < W2.heap.size from ⟨blk_lt HR2.out, blk_lt HZ3.out⟩)
      have KS := Aside0.mk (show ∀ cur, Below W2.heap.size W2 cur → cur.cell? (bn.add r.start.toNat) = some (.string (rdOf ByteArray.empty r.nonterms r.start)) ∧ cur.cell? (an.add g.start.toNat) = some (.string (rdOf ByteArray.empty r.nonterms r.start)) from fun cur hb => by
        obtain ⟨ad, e, h1⟩ := at_str (KZ.out cur hb).2.2.1.nonterms r.start.toNat (by omega)
        cases e
        obtain ⟨ad, e, h2⟩ := at_str (KZ.out cur hb).2.2.2.1.nonterms g.start.toNat (by omega)
        cases e
        rw [show ((r.start.toNat : Nat) : Int) = r.start by omega] at h1
        rw [show ((g.start.toNat : Nat) : Int) = g.start by omega, ← HFO.out.start] at h2
        exact ⟨h1, h2⟩)
      have KV := Aside0.mk (show ∀ cur, Below W2.heap.size W2 cur → Calls Try.prog 14 #[.agg #[.slice Bt r.terms.length dt, .slice (some bn) r.nonterms.length dn, .int .i64 r.start, .slice (some br) r.rules.length dr]] cur (fun e w' => e = .returned (.bool true) ∧ Below W2.heap.size W2 w') from fun cur hcur => by
        refine (Ref.valid r cur Bt dt (some bn) dn (some br) dr (KZ.out _ hcur).2.2.1).mono ?_
        rintro e w6 ⟨rfl, hb6⟩
        rw [HV.out]
        exact ⟨rfl, hcur.trans (hb6.mono hcur.size)⟩)
      have d1 : ((fr.length : Int) != (r.rules.length : Int)) = false := by rw [HFO.out.len]; simp
      obtain ⟨⟨r0, r1, r2, r3⟩, ⟨g0, g1, g2, g3⟩, _⟩ := KZ.out W2 (Below.refl _ _)
      go_upto_region 6 with fail
      clear hW2 r0 r1 r2 r3 g0 g1 g2 g3
      go_region_held3 (fun w' => (w'.cell? ⟨w2.heap.size, 0, none⟩ = some (.slice Bt r.terms.length dt) ∧ w'.cell? ⟨w2.heap.size, 1, none⟩ = some (.slice (some bn) r.nonterms.length dn) ∧ w'.cell? ⟨w2.heap.size, 2, none⟩ = some (.int .i64 r.start) ∧ w'.cell? ⟨w2.heap.size, 3, none⟩ = some (.slice (some br) r.rules.length dr)) ∧ (w'.cell? ⟨w.heap.size, 0, none⟩ = some (.slice At g.terms.length ct) ∧ w'.cell? ⟨w.heap.size, 1, none⟩ = some (.slice (some an) g.nonterms.length cn) ∧ w'.cell? ⟨w.heap.size, 2, none⟩ = some (.int .i64 g.start) ∧ w'.cell? ⟨w.heap.size, 3, none⟩ = some (.slice (some ar) g.rules.length cr)) ∧ w'.cell? (bn.add r.start.toNat) = some (.string (rdOf ByteArray.empty r.nonterms r.start)) ∧ w'.cell? (an.add g.start.toNat) = some (.string (rdOf ByteArray.empty r.nonterms r.start)))
        (first
          | (have hb := HB6.out; exact ⟨(KZ.out _ hb).1, (KZ.out _ hb).2.1, KS.out _ hb⟩)
          | (have hb := below_drew1 HB6.out; exact ⟨(KZ.out _ hb).1, (KZ.out _ hb).2.1, KS.out _ hb⟩)
          | (have hb := below_drew1 (Below.refl W2.heap.size W2); exact ⟨(KZ.out _ hb).1, (KZ.out _ hb).2.1, KS.out _ hb⟩)
          | (have hb := Below.refl W2.heap.size W2; exact ⟨(KZ.out _ hb).1, (KZ.out _ hb).2.1, KS.out _ hb⟩)
          | fail "keep")
        (first
          | (go_at_call 14; refine (KV.out _ ?hcur).mono ?_; (case hcur => first | exact Below.refl _ _ | exact below_drew1 (Below.refl _ _)); rintro e w6 ⟨rfl, hb6⟩; have HB6 := Aside0.mk hb6; clear hb6)
          | fail "none")
      have HL6 := Aside0.mk (show Below W2.heap.size W2 w6 from HB6.out)
      have hfl : fr.length ≤ 120 := by
        have := HV.out; unfold validB at this; simp only [Bool.and_eq_true, decide_eq_true_eq] at this; have := this.1.2; have := HFO.out.len; omega
      have hrn : r.nonterms.length ≤ 120 := by
        have := (rulOk_of_valid HV.out).2.2.2.1; exact this
      clear d1 HB6 hgs hrs
      go_wp2_with fail
      go_loopw [6] (fun v6 wr => ∃ k : Nat, v6 = .int .i64 k ∧ k ≤ fr.length ∧ Aside0 (Below W2.heap.size W2 wr)) (fun v6 _ => fr.length - (intOf v6).toNat)
      case atStart => exact ⟨0, rfl, Nat.zero_le _, by first | exact HL6 | exact ⟨below_drew1 HL6.out⟩⟩
      case round =>
        clear HL6
        obtain ⟨k, rfl, hk, HL⟩ := hrel
        obtain ⟨wo, rfl⟩ : ∃ wo : World, wo = wr := ⟨_, rfl⟩
        by_cases hlt : k < fr.length
        · obtain ⟨⟨r0, r1, r2, r3⟩, ⟨g0, g1, g2, g3⟩, hgr, hgg, hfr⟩ := KZ.out wo HL.out
          obtain ⟨fa, e, hj⟩ := at_int hfr k hlt
          cases e
          have hbd := HFO.out.bd k hlt
          have HRl := Aside0.mk (HFO.out.rul k hlt)
          have hlr : k < r.rules.length := by have := HFO.out.len; omega
          have hprev : 0 < k → wo.cell? (fa.add ((k : Int) - 1).toNat) = some (.int .i64 (rd fr ((k - 1 : Nat) : Int))) ∧ rd fr ((k - 1 : Nat) : Int) < rd fr (k : Int) := by
            intro h0
            obtain ⟨ad, e, h⟩ := at_int hfr (k - 1) (by omega)
            cases e
            rw [show (((k : Int) - 1).toNat) = k - 1 by omega]
            refine ⟨h, ?_⟩
            have := HFO.out.inc (k - 1) (by omega)
            rwa [show k - 1 + 1 = k by omega] at this
          have HPv := Aside0.mk hprev
          clear hprev
          generalize hje : rd fr (k : Int) = j at *
          have HJ := Aside0.mk hje
          clear hje
          have hd : decide ((k : Int) < (fr.length : Int)) = true := decide_eq_true (by omega)
          have q1 : (k : Int) < (fr.length : Int) := by omega
          have q2 : (k : Int) < (r.rules.length : Int) := by omega
          have hj0 := hbd.1
          have hj1 := hbd.2
          have d2 : decide (j < 0) = false := decide_eq_false (by omega)
          have d3 : decide ((g.rules.length : Int) ≤ j) = false := decide_eq_false (by omega)
          clear hgr hgg hfr r0 r1 r2 g0 g1 g2 hbd
          have HKC := Aside0.mk (Nat.eq_zero_or_pos k)
          clear r3
          go_upto_region 11 with fail
          go_cut [85] from 49 to 192 (fun v85 wd => v85 = .bool false ∧ Aside0 (Below wo.heap.size wo wd))
          case first =>
            rcases HKC.out with hk0 | hk0
            case inl =>
              have d4 : decide ((0 : Int) < (k : Int)) = false := decide_eq_false (by omega)
              have d5 : decide (0 < k) = false := decide_eq_false (by omega)
              have HS := Aside0.mk (show wo.cell? ⟨w.heap.size, 3, none⟩ = some (.slice (some ar) g.rules.length cr) ∧ wo.cell? (fa.add k) = some (.int .i64 j) from ⟨g3, hj⟩)
              have HK0 := Aside0.mk hk0
              clear hk0
              first | (go_wp2_with fail; go_quiet (fail)) | fail "region 11"
              go_wp2_with fail
              go_meet
              exact ⟨rfl, ⟨by first | exact Below.refl _ _ | exact pw_below_drewN (Below.refl _ _) _⟩⟩
            case inr =>
              obtain ⟨hj2, hlt2⟩ := HPv.out hk0
              generalize rd fr ((k - 1 : Nat) : Int) = j2 at *
              have d4 : decide ((0 : Int) < (k : Int)) = true := decide_eq_true (by omega)
              have d5 : decide (0 < k) = true := decide_eq_true hk0
              have d6 : decide (j ≤ j2) = false := decide_eq_false (by omega)
              have q3 : 0 ≤ (k : Int) - 1 := by omega
              have q4 : (k : Int) - 1 < (fr.length : Int) := by omega
              have hwr : IntKind.i64.wrap ((k : Int) - 1) = (k : Int) - 1 := Go.IntWalk.i64_in _ (by omega)
              have HS := Aside0.mk (show wo.cell? ⟨w.heap.size, 3, none⟩ = some (.slice (some ar) g.rules.length cr) ∧ wo.cell? (fa.add k) = some (.int .i64 j) ∧ wo.cell? (fa.add ((k : Int) - 1).toNat) = some (.int .i64 j2) from ⟨g3, hj, hj2⟩)
              have HK0 := Aside0.mk hk0
              have q5 : (1 : Int) ≤ (k : Int) := by omega
              have q6 : 1 ≤ k := hk0
              have q7 : (k : Int) < (fr.length : Int) + 1 := by omega
              have hj3 : wo.cell? (fa.add (k - 1)) = some (.int .i64 j2) := by rw [show k - 1 = ((k : Int) - 1).toNat by omega]; exact hj2
              first | (go_wp2_with fail; go_quiet (fail)) | fail "region 11"
              go_wp2_with fail
              go_meet
              exact ⟨rfl, ⟨by first | exact Below.refl _ _ | exact pw_below_drewN (Below.refl _ _) _⟩⟩
          case rest =>
            obtain ⟨rfl, HBd⟩ := hcut
            obtain ⟨wd, rfl⟩ : ∃ wd : World, wd = wc := ⟨_, rfl⟩
            clear HPv HKC d2 d3
            go_upto_region 13 with fail
            have HLd := Aside0.mk (HL.out.trans (HBd.out.mono HL.out.size))
            clear g3 hj HL HBd
            obtain ⟨⟨r0, r1, r2, r3⟩, ⟨g0, g1, g2, g3⟩, hgr, hgg, hfr⟩ := KZ.out wd HLd.out
            obtain ⟨ad, A1, c1, e, h1, h2, h3, hl, hc⟩ := at_rul hgr.rules k hlr
            cases e
            obtain ⟨bd, B1, k1, e, i1, i2, i3, il, ic⟩ := at_rul hgg.rules j.toNat (by omega)
            cases e
            rw [show ((j.toNat : Nat) : Int) = j by omega] at i1 i2 i3 il ic
            obtain ⟨ad, e, hj⟩ := at_int hfr k hlt
            cases e
            rw [HJ.out] at hj
            have HC := Aside0.mk hc
            have HD := Aside0.mk ic
            have lm : (rdOf Rul.zero r.rules k).body.length ≤ 9223372036854775807 := hc.2.1
            generalize rdOf Rul.zero r.rules (k : Int) = rx at *
            generalize rdOf Rul.zero g.rules j = ry at *
            have lza := KB.out.1
            have lzb := KB.out.2
            have lsz := HLd.out.size
            have lr : w2.heap.size < wd.heap.size := by omega
            have lg : w.heap.size < wd.heap.size := by omega
            have la1 := World.block_lt_of_cell? wd _ h1
            have la2 := World.block_lt_of_cell? wd _ h2
            have la3 := World.block_lt_of_cell? wd _ h3
            have lb1 := World.block_lt_of_cell? wd _ i1
            have lb2 := World.block_lt_of_cell? wd _ i2
            have lb3 := World.block_lt_of_cell? wd _ i3
            have lj := World.block_lt_of_cell? wd _ hj
            clear hc hl ic il hgr hgg hfr lza lzb lsz r0 r1 r2 g0 g1 g2
            go_cut [7, 8] from 49 to 192 (fun v7 v8 wc => ∃ b6 b7 : Nat, v7 = .pointer (some ⟨b6, 0, none⟩) ∧ v8 = .pointer (some ⟨b7, 0, none⟩) ∧ Aside0 (wc.heap[b6]? = some (.cells #[.int .i64 rx.head, .slice A1 rx.body.length c1, .int .i64 rx.price] 42 (0, 0))) ∧ Aside0 (wc.heap[b7]? = some (.cells #[.int .i64 ry.head, .slice B1 ry.body.length k1, .int .i64 ry.price] 42 (0, 0))) ∧ Aside0 (Below wd.heap.size wd wc))
            case first =>
              go_region
              all_goals (go_wp2_with fail; go_meet)
              all_goals exact ⟨_, _, rfl, rfl, ⟨by first | exact new0 _ _ _ | exact new1 _ _ _⟩, ⟨by first | exact new0 _ _ _ | exact new1 _ _ _⟩, ⟨by repeat (first | exact Below.refl _ _ | apply below_alloc | apply below_drew1)⟩⟩
            case rest =>
              obtain ⟨b6, b7, rfl, rfl, H6, H7, HL6⟩ := hcut
              have HZb := Aside0.mk (HLd.out.trans (HL6.out.mono HLd.out.size))
              obtain ⟨⟨r0, r1, r2, r3⟩, ⟨g0, g1, g2, g3⟩, hgr, hgg, _⟩ := KZ.out wc HZb.out
              have HC6 := Aside0.mk (Kd.C_below HC.out HL6.out)
              have HD6 := Aside0.mk (Kd.C_below HD.out HL6.out)
              have x0 : wc.cell? ⟨b6, 0, none⟩ = some (.int .i64 rx.head) := (blk_cell H6.out 0).trans rfl
              have x1 : wc.cell? ⟨b6, 1, none⟩ = some (.slice A1 rx.body.length c1) := (blk_cell H6.out 1).trans rfl
              have x2 : wc.cell? ⟨b6, 2, none⟩ = some (.int .i64 rx.price) := (blk_cell H6.out 2).trans rfl
              have y0 : wc.cell? ⟨b7, 0, none⟩ = some (.int .i64 ry.head) := (blk_cell H7.out 0).trans rfl
              have y1 : wc.cell? ⟨b7, 1, none⟩ = some (.slice B1 rx.body.length k1) := by rw [HRl.out.len]; exact (blk_cell H7.out 1).trans rfl
              have y2 : wc.cell? ⟨b7, 2, none⟩ = some (.int .i64 rx.price) := by rw [HRl.out.price]; exact (blk_cell H7.out 2).trans rfl
              have ha := HRl.out.ha
              have hb := HRl.out.hb
              obtain ⟨ad, e, hn1⟩ := at_str hgr.nonterms rx.head.toNat (by omega)
              cases e
              obtain ⟨ad, e, hn2⟩ := at_str hgg.nonterms ry.head.toNat (by omega)
              cases e
              rw [show ((rx.head.toNat : Nat) : Int) = rx.head by omega] at hn1
              rw [show ((ry.head.toNat : Nat) : Int) = ry.head by omega, ← HRl.out.head] at hn2
              generalize rdOf ByteArray.empty r.nonterms rx.head = nm at *
              obtain ⟨ha0, ha1⟩ := ha
              obtain ⟨hb0, hb1⟩ := hb
              have HGr6 := Aside0.mk hgr
              have HGg6 := Aside0.mk hgg
              clear h1 h2 h3 i1 i2 i3 la1 la2 la3 lb1 lb2 lb3 lj lr lg hj hj0 hj1 q1 q2 HLd HL6 HC HD H6 H7 hgr hgg r0 g0
              first | (go_wp2_with fail; go_quiet (fail)) | fail "region 14"
              go_wp2_with fail
              clear x0 x2 y0 y2 hn1 hn2 ha0 ha1 hb0 hb1 r2 r3 g2 g3
              go_loopw [9] (fun v9 wr => ∃ q : Nat, v9 = .int .i64 q ∧ q ≤ rx.body.length ∧ Drawn0 wc wr) (fun v9 _ => rx.body.length - (intOf v9).toNat)
              case atStart => exact ⟨0, rfl, Nat.zero_le _, by first | exact Drawn0.refl _ | exact ⟨_, rfl⟩⟩
              case round =>
                obtain ⟨q, rfl, hq, ⟨m, rfl⟩⟩ := hrel
                by_cases hlt3 : q < rx.body.length
                · obtain ⟨xd, e, hx⟩ := at_int HC6.out q hlt3
                  cases e
                  obtain ⟨yd, e, hy⟩ := at_int HD6.out q (by rw [← HRl.out.len]; exact hlt3)
                  cases e
                  have hd2 : decide ((q : Int) < (rx.body.length : Int)) = true := decide_eq_true (by omega)
                  have q3 : (q : Int) < (rx.body.length : Int) := by omega
                  rcases HRl.out.sym q hlt3 with ⟨p0, p1⟩ | ⟨p0, p1, ⟨u0, u1⟩, ⟨v0, v1⟩, hnm⟩
                  · rw [p1] at hy
                    clear p1
                    generalize rd rx.body (q : Int) = x at *
                    have d5 : decide (0 ≤ x) = true := decide_eq_true p0
                    have d6 : decide (x < 0) = false := decide_eq_false (by omega)
                    first | (go_wp2_with fail; go_quiet (fail)) | fail "region 19 a"
                    go_wp2_with fail
                    go_roundw
                    case rel => exact ⟨q + 1, by simp, by omega, (by repeat (first | exact Drawn0.refl _ | apply Drawn0.step))⟩
                    case measure => simp [intOf]; omega
                  · obtain ⟨ad, e, hn1⟩ := at_str HGr6.out.nonterms (-1 - rd rx.body (q : Int)).toNat (by omega)
                    cases e
                    obtain ⟨ad, e, hn2⟩ := at_str HGg6.out.nonterms (-1 - rd ry.body (q : Int)).toNat (by omega)
                    cases e
                    rw [show (((-1 - rd rx.body (q : Int)).toNat : Nat) : Int) = -1 - rd rx.body (q : Int) by omega] at hn1
                    rw [show (((-1 - rd ry.body (q : Int)).toNat : Nat) : Int) = -1 - rd ry.body (q : Int) by omega, ← hnm] at hn2
                    generalize rdOf ByteArray.empty r.nonterms (-1 - rd rx.body (q : Int)) = nm2 at *
                    have hgn : g.nonterms.length ≤ 9223372036854775807 := HGg6.out.nonterms.2.1
                    generalize rd rx.body (q : Int) = x at *
                    generalize rd ry.body (q : Int) = y at *
                    clear hnm
                    have d5 : decide (0 ≤ x) = false := decide_eq_false (by omega)
                    have d6 : decide (x < 0) = true := decide_eq_true p0
                    have d7 : decide (0 ≤ y) = false := decide_eq_false (by omega)
                    have wx : IntKind.i64.wrap (-1 - x) = -1 - x := Go.IntWalk.i64_in _ (by omega)
                    have wy : IntKind.i64.wrap (-1 - y) = -1 - y := Go.IntWalk.i64_in _ (by omega)
                    first | (go_wp2_with fail; go_quiet (fail)) | (clear wx wy; go_wp2_with fail; go_quiet (fail)) | fail "region 19 b"
                    go_wp2_with fail
                    go_roundw
                    case rel => exact ⟨q + 1, by simp, by omega, (by repeat (first | exact Drawn0.refl _ | apply Drawn0.step))⟩
                    case measure => simp [intOf]; omega
                · obtain rfl : q = rx.body.length := by omega
                  have HLe := Aside0.mk (pw_below_drewN HZb.out m)
                  clear HC6 HD6
                  go_wp2_with fail
                  go_roundw
                  case rel => exact ⟨k + 1, by simp, by omega, HLe⟩
                  case measure => simp [intOf]; omega
        · obtain rfl : k = fr.length := by omega
          go_wp2_with fail
          refine (awake wo (maxL_below HM.out (HB3.out.trans (HL.out.mono HB3.out.size)))).mono ?_
          rintro e w9 ⟨rfl, hb9⟩
          have HB9 := Aside0.mk ((HB3.out.trans (HL.out.mono HB3.out.size)).trans (hb9.mono (Nat.le_trans HB3.out.size HL.out.size)))
          clear hb9
          go_wp2_with fail
          go_ret
          exact ⟨rfl, HB9.out⟩
end Go.Proofs.Ytadednkdhblpfaa.Law
