/- emendatelaw22.ReduceUseful, walked. -/
import Derived.Test.YtadednkdhblpfaaIdem
import Derived.Test.YtadednkdhblpfaaReach
import Derived.Deep.RegionWith
import Derived.BigRegion
import Derived.Deep.CutRange
namespace Go.Proofs.Ytadednkdhblpfaa.Law
open Go.RowKit Go.Proofs.YtadednkdhblpfaaW.PrintWords Go.Proofs.YtadednkdhblpfaaW.PrintLast Go.Proofs.YtadednkdhblpfaaW.PrintMore Go.Proofs.Ytadednkdhblpfaa.B Go.Proofs.Ytadednkdhblpfaa.Val Go.Proofs.Ytadednkdhblpfaa.Ana Go.Proofs.Ytadednkdhblpfaa.Red Go.Proofs.Ytadednkdhblpfaa.Ref
set_option linter.unusedVariables false
set_option linter.unusedSimpArgs false

/-- what the law asks of the reduced grammar's two lists -/
theorem Ok.prod {g : Gr} (h : Ok g) {out : List Bool} (ho : HeadsOut (rG g).rules (rG g).nonterms.length true out) : ∀ k : Nat, k < (rG g).nonterms.length → rdOf false out k = true := fun k hk =>
  (ho.iff k hk).2 (h.all_hp (by omega) (by omega))
theorem Ok.reach {g : Gr} (h : Ok g) {out : List Bool} (ho : UsefulOut (rG g) (allT (rG g)) out) : ∀ k : Nat, k < (rG g).nonterms.length → rdOf false out k = true := fun k hk => by
  refine (ho.iff k hk).2 ?_
  obtain ⟨i, hu, e⟩ := h.old (j := (k : Int)) (by omega) (by omega)
  rw [← e]
  have := h.up_red hu
  rwa [h.pr_red] at this

set_option maxHeartbeats 4000000 in
set_option maxRecDepth 100000 in
theorem useful_law (g : Gr) (w : World) (hM : MaxL w)
    (At : Option Addr) (ct : Nat) (An : Option Addr) (cn : Nat) (Ar : Option Addr) (cr : Nat) (hg : GrC w At ct An cn Ar cr g) :
    Calls Try.prog 7 #[.agg #[.slice At g.terms.length ct, .slice An g.nonterms.length cn, .int .i64 g.start, .slice Ar g.rules.length cr]] w (LawPost w) := by
  have HG := Aside0.mk hg
  have HM := Aside0.mk hM
  clear hg hM
  obtain ⟨W, hW⟩ : ∃ W, w.alloc (.cells #[.slice At g.terms.length ct, .slice An g.nonterms.length cn, .int .i64 g.start, .slice Ar g.rules.length cr] 25) = W := ⟨_, rfl⟩
  have HZ := Aside0.mk (show W.heap[w.heap.size]? = some (.cells #[.slice At g.terms.length ct, .slice An g.nonterms.length cn, .int .i64 g.start, .slice Ar g.rules.length cr] 25 (0, 0)) by rw [← hW]; exact blk_new _ _)
  have HB := Aside0.mk (show Below w.heap.size w W by rw [← hW]; exact (Below.refl _ _).alloc (Nat.le_refl _) _)
  have z0 : W.cell? ⟨w.heap.size, 0, none⟩ = some (.slice At g.terms.length ct) := (blk_cell HZ.out 0).trans rfl
  have z1 : W.cell? ⟨w.heap.size, 1, none⟩ = some (.slice An g.nonterms.length cn) := (blk_cell HZ.out 1).trans rfl
  have z2 : W.cell? ⟨w.heap.size, 2, none⟩ = some (.int .i64 g.start) := (blk_cell HZ.out 2).trans rfl
  have z3 : W.cell? ⟨w.heap.size, 3, none⟩ = some (.slice Ar g.rules.length cr) := (blk_cell HZ.out 3).trans rfl
  go_enter Try.func7, Try.ntmps7
  go_wp2_with fail
  refine (few g 40 W At ct An cn Ar cr (HG.out.below HB.out)).mono ?_
  rintro e w1 ⟨b, rfl, hb1⟩
  have HB1 := Aside0.mk (HB.out.trans (hb1.mono HB.out.size))
  have HZ1 := Aside0.mk (blk_below HZ.out hb1)
  clear z0 z1 z2 z3 hb1 hW HB HZ
  cases b with
  | false =>
    go_wp2_with fail
    refine (awake w1 (maxL_below HM.out HB1.out)).mono ?_
    rintro e w2 ⟨rfl, hb2⟩
    have HB2 := Aside0.mk (HB1.out.trans (hb2.mono HB1.out.size))
    clear hb2
    go_wp2_with fail
    go_ret
    exact ⟨rfl, HB2.out⟩
  | true =>
    have z0 : w1.cell? ⟨w.heap.size, 0, none⟩ = some (.slice At g.terms.length ct) := (blk_cell HZ1.out 0).trans rfl
    have z1 : w1.cell? ⟨w.heap.size, 1, none⟩ = some (.slice An g.nonterms.length cn) := (blk_cell HZ1.out 1).trans rfl
    have z2 : w1.cell? ⟨w.heap.size, 2, none⟩ = some (.int .i64 g.start) := (blk_cell HZ1.out 2).trans rfl
    have z3 : w1.cell? ⟨w.heap.size, 3, none⟩ = some (.slice Ar g.rules.length cr) := (blk_cell HZ1.out 3).trans rfl
    go_wp2_with fail
    refine (reduce g w1 (maxL_below HM.out HB1.out) At ct An cn Ar cr (HG.out.below HB1.out)).mono ?_
    rcases reduceR_cases g with hr | hr | hr
    case inl =>
      rw [hr.1]
      rintro e w2 ⟨Bt, dt, Bn, dn, Br, dr, Bf, df, rfl, hg2, hl2, hb2⟩
      have HB2 := Aside0.mk (HB1.out.trans (hb2.mono HB1.out.size))
      clear hb2 z0 z1 z2 z3 hg2 hl2 hr
      go_wp2_with fail
      refine (awake _ (maxL_below HM.out (HB2.out.alloc HB2.out.size _))).mono ?_
      rintro e w3 ⟨rfl, hb3⟩
      have HB3 := Aside0.mk ((HB2.out.alloc HB2.out.size _).trans (hb3.mono (by simp; have := HB2.out.size; omega)))
      have hbx := blk_below (blk_new w2 (.cells #[.slice Bt Gr.zero.terms.length dt, .slice Bn Gr.zero.nonterms.length dn, .int .i64 Gr.zero.start, .slice Br Gr.zero.rules.length dr] 25)) hb3
      have b3 : w3.cell? ⟨w2.heap.size, 3, none⟩ = some (.slice Br 0 dr) := (blk_cell hbx 3).trans rfl
      clear hb3 hbx
      go_wp2_with fail
      go_ret
      exact ⟨rfl, HB3.out⟩
    case inr.inl =>
      rw [hr.1]
      rintro e w2 ⟨Bt, dt, Bn, dn, Br, dr, Bf, df, rfl, hg2, hl2, hb2⟩
      have HB2 := Aside0.mk (HB1.out.trans (hb2.mono HB1.out.size))
      clear hb2 z0 z1 z2 z3 hg2 hl2 hr
      go_wp2_with fail
      refine (awake _ (maxL_below HM.out (HB2.out.alloc HB2.out.size _))).mono ?_
      rintro e w3 ⟨rfl, hb3⟩
      have HB3 := Aside0.mk ((HB2.out.alloc HB2.out.size _).trans (hb3.mono (by simp; have := HB2.out.size; omega)))
      have hbx := blk_below (blk_new w2 (.cells #[.slice Bt Gr.zero.terms.length dt, .slice Bn Gr.zero.nonterms.length dn, .int .i64 Gr.zero.start, .slice Br Gr.zero.rules.length dr] 25)) hb3
      have b3 : w3.cell? ⟨w2.heap.size, 3, none⟩ = some (.slice Br 0 dr) := (blk_cell hbx 3).trans rfl
      clear hb3 hbx
      go_wp2_with fail
      go_ret
      exact ⟨rfl, HB3.out⟩
    case inr.inr =>
      rw [hr.1]
      have HOk := Aside0.mk hr.2
      rintro e w2 ⟨Bt, dt, Bn, dn, Br, dr, Bf, df, rfl, hg2, hl2, hb2⟩
      have HB2 := Aside0.mk (HB1.out.trans (hb2.mono HB1.out.size))
      have HG2 := Aside0.mk (show GrC w2 Bt dt Bn dn Br dr (rG g) from (hg2 w2 (Ch.refl _ _)).1)
      have HP1 := Aside0.mk (fun out (h : HeadsOut (rG g).rules (rG g).nonterms.length true out) => hr.2.prod h)
      have HP2 := Aside0.mk (fun out (h : UsefulOut (rG g) (allT (rG g)) out) => hr.2.reach h)
      have HF := Aside0.mk (rulOk_of_valid hr.2.valid)
      clear hb2 z0 z1 z2 z3 hg2 hl2 hr HOk
      generalize rG g = r at *
      have hnn : r.nonterms.length ≤ 120 := HF.out.2.2.2.1
      obtain ⟨W2, hW2⟩ : ∃ W2, w2.alloc (.cells #[.slice Bt r.terms.length dt, .slice Bn r.nonterms.length dn, .int .i64 r.start, .slice Br r.rules.length dr] 25) = W2 := ⟨_, rfl⟩
      have HR2 := Aside0.mk (show W2.heap[w2.heap.size]? = some (.cells #[.slice Bt r.terms.length dt, .slice Bn r.nonterms.length dn, .int .i64 r.start, .slice Br r.rules.length dr] 25 (0, 0)) by rw [← hW2]; exact blk_new _ _)
      have HB3 := Aside0.mk (show Below w.heap.size w W2 by rw [← hW2]; exact HB2.out.alloc HB2.out.size _)
      have HG3 := Aside0.mk (show GrC W2 Bt dt Bn dn Br dr r by rw [← hW2]; exact HG2.out.below (below_alloc (Below.refl _ _) _))
      clear HG2
      have KZ := Aside0.mk (show ∀ cur, Below W2.heap.size W2 cur → cur.cell? ⟨w2.heap.size, 0, none⟩ = some (.slice Bt r.terms.length dt) ∧ cur.cell? ⟨w2.heap.size, 1, none⟩ = some (.slice Bn r.nonterms.length dn) ∧ cur.cell? ⟨w2.heap.size, 2, none⟩ = some (.int .i64 r.start) ∧ cur.cell? ⟨w2.heap.size, 3, none⟩ = some (.slice Br r.rules.length dr) ∧ GrC cur Bt dt Bn dn Br dr r from fun cur hb =>
        have h := blk_below HR2.out hb
        ⟨(blk_cell h 0).trans rfl, (blk_cell h 1).trans rfl, (blk_cell h 2).trans rfl, (blk_cell h 3).trans rfl, HG3.out.below hb⟩)
      obtain ⟨z0, z1, z2, z3, _⟩ := KZ.out W2 (Below.refl _ _)
      have KP := Aside0.mk (show ∀ cur, Below W2.heap.size W2 cur → Calls Try.prog 16 #[.agg #[.slice Bt r.terms.length dt, .slice Bn r.nonterms.length dn, .int .i64 r.start, .slice Br r.rules.length dr]] cur (fun e w' => ∃ A0 c0 o0, e = .returned (.slice A0 r.nonterms.length c0) ∧ HeadsOut r.rules r.nonterms.length true o0 ∧ Kd.C Kd.bool w' A0 r.nonterms.length o0 ∧ Below W2.heap.size W2 w' ∧ Below cur.heap.size cur w') from fun cur hcur => by
        refine (productive r cur Bt dt Bn dn Br dr (KZ.out _ hcur).2.2.2.2 HF.out.1 (by omega)).mono ?_
        rintro e w6 ⟨v, o0, rfl, ho0, hv0, hb6⟩
        obtain ⟨A0, c0, rfl, _, hC0⟩ := Kd.R_reads hv0
        have hl := ho0.len
        rw [hl] at hC0
        exact ⟨A0, c0, o0, by rw [hl], ho0, hC0, hcur.trans (hb6.mono hcur.size), hb6⟩)
      have KR := Aside0.mk (show ∀ cur, Below W2.heap.size W2 cur → Calls Try.prog 17 #[.agg #[.slice Bt r.terms.length dt, .slice Bn r.nonterms.length dn, .int .i64 r.start, .slice Br r.rules.length dr]] cur (fun e w' => ∃ A0 c0 o0, e = .returned (.slice A0 r.nonterms.length c0) ∧ UsefulOut r (allT r) o0 ∧ Kd.C Kd.bool w' A0 r.nonterms.length o0 ∧ Below W2.heap.size W2 w' ∧ Below cur.heap.size cur w') from fun cur hcur => by
        refine (reachable r cur Bt dt Bn dn Br dr (KZ.out _ hcur).2.2.2.2 HF.out.1 HF.out.2.1 (by omega)).mono ?_
        rintro e w6 ⟨v, o0, rfl, ho0, hv0, hb6⟩
        obtain ⟨A0, c0, rfl, _, hC0⟩ := Kd.R_reads hv0
        have hl := ho0.len
        rw [hl] at hC0
        exact ⟨A0, c0, o0, by rw [hl], ho0, hC0, hcur.trans (hb6.mono hcur.size), hb6⟩)
      go_upto_region 6 with fail
      clear hW2
      go_cut [6, 7] (fun v6 v7 wc => ∃ A0 c0 o0 A1 c1 o1, v6 = .slice A0 r.nonterms.length c0 ∧ v7 = .slice A1 r.nonterms.length c1 ∧ Aside0 (HeadsOut r.rules r.nonterms.length true o0) ∧ Aside0 (UsefulOut r (allT r) o1) ∧ Aside0 (Kd.C Kd.bool wc A0 r.nonterms.length o0) ∧ Aside0 (Kd.C Kd.bool wc A1 r.nonterms.length o1) ∧ Aside0 (Below W2.heap.size W2 wc))
      case first =>
        go_region_with (first
          | (go_at_call 16; refine (KP.out _ ?hcur).mono ?_; (case hcur => first | exact Below.refl _ _ | exact below_drew1 (Below.refl _ _) | exact HBr.out); rintro e w6 ⟨A0, c0, o0, rfl, ho0, hC0, hbp, hb6⟩; have HO0 := Aside0.mk ho0; have HC0 := Aside0.mk hC0; have HBp := Aside0.mk hbp; have HB6 := Aside0.mk hb6; obtain ⟨y0, y1, y2, y3, _⟩ := KZ.out w6 hbp; clear ho0 hb6 hC0 hbp)
          | (go_at_call 17; refine (KR.out _ ?hcur).mono ?_; (case hcur => first | exact Below.refl _ _ | exact below_drew1 (Below.refl _ _) | exact HBp.out); rintro e w7 ⟨A1, c1, o1, rfl, ho1, hC1, hbr, hb7⟩; have HO1 := Aside0.mk ho1; have HC1 := Aside0.mk hC1; have HBr := Aside0.mk hbr; have HB7 := Aside0.mk hb7; obtain ⟨x0, x1, x2, x3, _⟩ := KZ.out w7 hbr; clear ho1 hb7 hC1 hbr))
        all_goals (go_wp2_with fail; go_meet)
        all_goals exact ⟨_, _, _, _, _, _, rfl, rfl, HO0, HO1, ⟨by first | exact HC0.out | exact Kd.C_below HC0.out HB7.out⟩, ⟨by first | exact HC1.out | exact Kd.C_below HC1.out HB6.out⟩, by first | exact HBr | exact HBp⟩
      case rest =>
        obtain ⟨A0, c0, o0, A1, c1, o1, rfl, rfl, HO0, HO1, HC0, HC1, HBc⟩ := hcut
        obtain ⟨y0, y1, y2, y3, _⟩ := KZ.out wc HBc.out
        have HB4 := Aside0.mk (HB3.out.trans (HBc.out.mono HB3.out.size))
        have HQ0 := Aside0.mk (HP1.out o0 HO0.out)
        have HQ1 := Aside0.mk (HP2.out o1 HO1.out)
        clear HP1 HP2 HO0 HO1 KZ HBc z0 z1 z2 z3
        go_wp2_with fail
        go_loop [8] (fun i => ∃ k : Nat, i = .int .i64 k ∧ k ≤ r.nonterms.length) (fun i => r.nonterms.length - (intOf i).toNat)
        case atStart => exact ⟨0, rfl, Nat.zero_le _⟩
        case round =>
          obtain ⟨k, rfl, hk⟩ := hrel
          by_cases hlt : k < r.nonterms.length
          · obtain ⟨ad, e, hx⟩ := at_bool HC0.out k hlt
            cases e
            obtain ⟨ad1, e, hx1⟩ := at_bool HC1.out k hlt
            cases e
            rw [HQ0.out k hlt] at hx
            rw [HQ1.out k hlt] at hx1
            have hd : decide ((k : Int) < (r.nonterms.length : Int)) = true := decide_eq_true (by omega)
            go_wp2_with fail
            go_round
            case rel => exact ⟨k + 1, by simp, by omega⟩
            case measure => simp [intOf]; omega
          · obtain rfl : k = r.nonterms.length := by omega
            go_wp2_with fail
            refine (awake wc (maxL_below HM.out HB4.out)).mono ?_
            rintro e w6 ⟨rfl, hb6⟩
            have HB6 := Aside0.mk (HB4.out.trans (hb6.mono HB4.out.size))
            clear hb6
            go_wp2_with fail
            go_ret
            exact ⟨rfl, HB6.out⟩
end Go.Proofs.Ytadednkdhblpfaa.Law
