/- emendatelaw22.ReduceLanguage, walked. -/
import Derived.Test.YtadednkdhblpfaaIdem
import Derived.Test.YtadednkdhblpfaaDerivesW
import Derived.Test.YtadednkdhblpfaaRefMem
import Derived.Deep.RegionHeld3
namespace Go.Proofs.Ytadednkdhblpfaa.Law
open Go.RowKit Go.Proofs.YtadednkdhblpfaaW.PrintWords Go.Proofs.YtadednkdhblpfaaW.PrintLast Go.Proofs.YtadednkdhblpfaaW.PrintMore Go.Proofs.Ytadednkdhblpfaa.B Go.Proofs.Ytadednkdhblpfaa.Val Go.Proofs.Ytadednkdhblpfaa.Ana Go.Proofs.Ytadednkdhblpfaa.Red Go.Proofs.Ytadednkdhblpfaa.Ref Go.Proofs.Ytadednkdhblpfaa.Tb
set_option linter.unusedVariables false
set_option linter.unusedSimpArgs false

set_option maxHeartbeats 4000000 in
set_option maxRecDepth 100000 in
theorem language (g : Gr) (bs : List Int) (w : World) (hM : MaxL w)
    (At : Option Addr) (ct : Nat) (An : Option Addr) (cn : Nat) (Ar : Option Addr) (cr : Nat) (hg : GrC w At ct An cn Ar cr g)
    (Sb : Option Addr) (cb : Nat) (hS : Kd.C (Kd.int .u8) w Sb bs.length bs) (hbs : ∀ b ∈ bs, 0 ≤ b ∧ b ≤ 255) :
    Calls Try.prog 4 #[.agg #[.slice At g.terms.length ct, .slice An g.nonterms.length cn, .int .i64 g.start, .slice Ar g.rules.length cr], .slice Sb bs.length cb] w (LawPost w) := by
  have hbm : bs.length ≤ 9223372036854775807 := hS.2.1
  have HG := Aside0.mk hg
  have HM := Aside0.mk hM
  have HSb := Aside0.mk hS
  have HBS := Aside0.mk hbs
  clear hg hM hS hbs
  obtain ⟨W, hW⟩ : ∃ W, w.alloc (.cells #[.slice At g.terms.length ct, .slice An g.nonterms.length cn, .int .i64 g.start, .slice Ar g.rules.length cr] 25) = W := ⟨_, rfl⟩
  have HZ := Aside0.mk (show W.heap[w.heap.size]? = some (.cells #[.slice At g.terms.length ct, .slice An g.nonterms.length cn, .int .i64 g.start, .slice Ar g.rules.length cr] 25 (0, 0)) by rw [← hW]; exact blk_new _ _)
  have HB := Aside0.mk (show Below w.heap.size w W by rw [← hW]; exact (Below.refl _ _).alloc (Nat.le_refl _) _)
  have KZ := Aside0.mk (show ∀ cur, Below W.heap.size W cur → (cur.cell? ⟨w.heap.size, 0, none⟩ = some (.slice At g.terms.length ct) ∧ cur.cell? ⟨w.heap.size, 1, none⟩ = some (.slice An g.nonterms.length cn) ∧ cur.cell? ⟨w.heap.size, 2, none⟩ = some (.int .i64 g.start) ∧ cur.cell? ⟨w.heap.size, 3, none⟩ = some (.slice Ar g.rules.length cr)) ∧ GrC cur At ct An cn Ar cr g ∧ Kd.C (Kd.int .u8) cur Sb bs.length bs ∧ MaxL cur ∧ Below w.heap.size w cur from fun cur hb =>
    have k := blk_below HZ.out hb
    have hbw := HB.out.trans (hb.mono HB.out.size)
    ⟨⟨(blk_cell k 0).trans rfl, (blk_cell k 1).trans rfl, (blk_cell k 2).trans rfl, (blk_cell k 3).trans rfl⟩, HG.out.below hbw, Kd.C_below HSb.out hbw, maxL_below HM.out hbw, hbw⟩)
  have HWl := Aside0.mk (blk_lt HZ.out)
  obtain ⟨⟨z0, z1, z2, z3⟩, _⟩ := KZ.out W (Below.refl _ _)
  go_enter Try.func4, Try.ntmps4
  go_wp2_with fail
  refine (few g 20 W At ct An cn Ar cr (KZ.out W (Below.refl _ _)).2.1).mono ?_
  rintro e w1 ⟨b, rfl, hb1⟩
  have HB1 := Aside0.mk (show Below W.heap.size W w1 from hb1)
  clear z0 z1 z2 z3 hb1 hW HB HZ HG HM HSb
  cases b with
  | false =>
    go_wp2_with fail
    refine (awake w1 (KZ.out _ HB1.out).2.2.2.1).mono ?_
    rintro e w2 ⟨rfl, hb2⟩
    have HB2 := Aside0.mk ((KZ.out _ HB1.out).2.2.2.2.trans (hb2.mono (KZ.out _ HB1.out).2.2.2.2.size))
    clear hb2
    go_wp2_with fail
    go_ret
    exact ⟨rfl, HB2.out⟩
  | true =>
    obtain ⟨⟨z0, z1, z2, z3⟩, _⟩ := KZ.out w1 HB1.out
    go_wp2_with fail
    refine (Ref.valid g w1 At ct An cn Ar cr (KZ.out w1 HB1.out).2.1).mono ?_
    rintro e w2 ⟨rfl, hb2⟩
    have HB2 := Aside0.mk (HB1.out.trans (hb2.mono HB1.out.size))
    clear hb2 z0 z1 z2 z3 HB1
    cases hv : validB g with
    | false =>
      clear hv
      go_wp2_with fail
      refine (awake w2 (KZ.out _ HB2.out).2.2.2.1).mono ?_
      rintro e w3 ⟨rfl, hb3⟩
      have HB3 := Aside0.mk ((KZ.out _ HB2.out).2.2.2.2.trans (hb3.mono (KZ.out _ HB2.out).2.2.2.2.size))
      clear hb3
      go_wp2_with fail
      go_ret
      exact ⟨rfl, HB3.out⟩
    | true =>
      have HV := Aside0.mk hv
      clear hv
      obtain ⟨⟨z0, z1, z2, z3⟩, _⟩ := KZ.out w2 HB2.out
      by_cases hnt : g.terms.length = 0
      · have d0 : ((g.terms.length : Int) == 0) = true := by simp [hnt]
        clear hnt
        go_wp2_with fail
        refine (awake w2 (KZ.out _ HB2.out).2.2.2.1).mono ?_
        rintro e w3 ⟨rfl, hb3⟩
        have HB3 := Aside0.mk ((KZ.out _ HB2.out).2.2.2.2.trans (hb3.mono (KZ.out _ HB2.out).2.2.2.2.size))
        clear hb3
        go_wp2_with fail
        go_ret
        exact ⟨rfl, HB3.out⟩
      · have d0 : ((g.terms.length : Int) == 0) = false := beq_eq_false_iff_ne.2 (by omega)
        have HNT := Aside0.mk (show 0 < g.terms.length by omega)
        clear hnt
        have hb2s := HB2.out.size
        have HL0 := Aside0.mk (show LRow (fun k => if k < w2.heap.size then 0 else 9) 9 (Kd.int .i64) 3 w2 w2.heap.size (.slice none 0 0) (((bs.take 0).map (fun b => Int.tmod b g.terms.length))) from LRow.nil _ _ _ _ _ _)
        go_wp2_with fail
        clear z0 z1 z2 z3 d0
        go_loopw [5, 6] (fun v5 v6 wr => ∃ (i : Nat) (lab : Nat → Nat) (v : Value), v = v5 ∧ v6 = .int .i64 i ∧ i ≤ bs.length ∧ i ≤ 4 ∧ Aside0 (∀ k, k < w2.heap.size → lab k = 0) ∧ Aside0 (LRow lab 9 (Kd.int .i64) 3 wr w2.heap.size v ((bs.take i).map (fun b => Int.tmod b g.terms.length))) ∧ Aside0 (Below w2.heap.size w2 wr)) (fun _ v6 _ => 4 - (intOf v6).toNat)
        case atStart => exact ⟨0, _, _, rfl, rfl, Nat.zero_le _, by omega, ⟨fun k hk => if_pos hk⟩, HL0, ⟨Below.refl _ _⟩⟩
        case round =>
          clear HL0
          obtain ⟨i, lab, v, rfl, rfl, hi, hi4, HO, HL, HBr⟩ := hrel
          obtain ⟨wo, rfl⟩ : ∃ wo : World, wo = wr := ⟨_, rfl⟩
          have HBo := Aside0.mk (HB2.out.trans (HBr.out.mono HB2.out.size))
          by_cases hlt : i < bs.length ∧ i < 4
          · obtain ⟨hlt1, hlt2⟩ := hlt
            obtain ⟨Al, cl, e, _, _⟩ := HL.out.reads
            subst e
            have hll : ((bs.take i).map (fun b => Int.tmod b g.terms.length)).length ≤ 4 := by rw [List.length_map, List.length_take]; omega
            have HTk := Aside0.mk (show (bs.take (i + 1)).map (fun b => Int.tmod b g.terms.length) = (bs.take i).map (fun b => Int.tmod b g.terms.length) ++ [Int.tmod (rd bs i) g.terms.length] by
              rw [List.take_succ_eq_append_getElem hlt1, List.map_append, rd_nat _ _ hlt1]; rfl)
            have hbb := HBS.out _ (rd_mem bs i hlt1)
            obtain ⟨ad, e, hx⟩ := at_int (KZ.out _ HB2.out).2.2.1 i hlt1
            cases e
            generalize (bs.take i).map (fun b => Int.tmod b g.terms.length) = l at *
            generalize rd bs (i : Int) = x at *
            have hnt2 : g.terms.length ≤ 120 := (rulOk_of_valid HV.out).2.2.2.2.2.1
            have hntp := HNT.out
            have hn1 : ¬ ((g.terms.length : Int) = 0) := by omega
            have hn2 : ¬ (g.terms.length = 0) := by omega
            have hn3 : ¬ (g.terms = []) := fun e => hn2 (by rw [e]; rfl)
            have hx0 : 0 ≤ x := hbb.1
            have hx1 : x ≤ 255 := hbb.2
            have hd : decide ((i : Int) < (bs.length : Int)) = true := decide_eq_true (by omega)
            have hd4 : decide ((i : Int) < 4) = true := decide_eq_true (by omega)
            have hd5 : decide (i < 4) = true := decide_eq_true hlt2
            have q1 : (i : Int) < (bs.length : Int) := by omega
            have wx : IntKind.i64.wrap x = x := Go.IntWalk.i64_in _ (by omega)
            have HK := Aside0.mk (show ∀ cur, Below w2.heap.size w2 cur → cur.cell? ⟨w.heap.size, 0, none⟩ = some (.slice At g.terms.length ct) ∧ cur.cell? (ad.add i) = some (.int .u8 x) from fun cur hb => ⟨(KZ.out cur (HB2.out.trans (hb.mono HB2.out.size))).1.1, (hb.cell (World.block_lt_of_cell? w2 _ hx)).trans hx⟩)
            have hbw := Aside0.mk HBr.out.size
            clear hx
            go_upto_region 7 with fail
            go_region_held3 (fun w' => w'.cell? ⟨w.heap.size, 0, none⟩ = some (.slice At g.terms.length ct) ∧ w'.cell? (ad.add i) = some (.int .u8 x))
              (first
                | exact HK.out _ HU7.out
                | (have hb7 := HU7.out; exact HK.out _ (below_drew1 hb7))
                | (refine HK.out _ (HBr.out.trans (Below.mono (B := wo.heap.size) ?_ hbw.out)); (repeat (first | exact Below.refl _ _ | apply below_alloc | apply below_drew1)); done)
                | fail "keep")
              (first
                | (refine lrow_append_step (Kd.int .i64) lab 9 99 w2.heap.size (by rfl) (.tmp 36) (.tmp 46) 28 3 (.int .i64 0) 8 rfl Try.underlying28 info_int rfl (by decide) (by decide) (.slice Al l.length cl) l (Int.tmod x g.terms.length) [.int .i64 (Int.tmod x g.terms.length)] _ 3 rfl rfl (by exact blk_new _ _) rfl (by decide) (HL.out.below (by repeat (first | exact Below.refl _ _ | apply below_alloc | apply below_drew1))) (Nat.le_trans hbw.out (Below.size (B := wo.heap.size) (by repeat (first | exact Below.refl _ _ | apply below_alloc | apply below_drew1)))) (by omega) ?_; intro v7 w7 hr7 hc7; have HR7 := Aside0.mk hr7; have HU7 := Aside0.mk (show Below w2.heap.size w2 w7 from under_old (w0 := w2) HO.out (HBr.out.trans (Below.mono (B := wo.heap.size) (by repeat (first | exact Below.refl _ _ | apply below_alloc | apply below_drew1)) hbw.out)) hc7 (fun j hj => .inl (by omega))); have HO7 := Aside0.mk (fun k (hk : k < w2.heap.size) => labApp_keep (n := (wo.alloc (.cells #[.int .i64 (Int.tmod x g.terms.length)] 3)).heap.size) (t := 9) (by simp; have := hbw.out; omega) (HO.out k hk) (show (0 : Nat) ≠ 99 by omega)); clear hr7 hc7))
            go_wp2_with fail
            go_roundw
            case rel => exact ⟨i + 1, _, v7, rfl, by simp, by omega, by omega, ⟨HO7.out⟩, ⟨by rw [HTk.out]; exact HR7.out⟩, ⟨by first | exact HU7.out | exact below_drew1 HU7.out⟩⟩
            case measure => simp [intOf]; omega
          · have HLT := Aside0.mk hlt
            clear hlt
            go_upto_region 5 with fail
            go_cut [33] from 26 to 47 (fun v33 wc => v33 = .bool false ∧ wc = wo)
            case first =>
              by_cases hl1 : i < bs.length
              case pos =>
                obtain rfl : i = 4 := by have := HLT.out; omega
                have d1 : decide (((4 : Nat) : Int) < (bs.length : Int)) = true := decide_eq_true (by omega)
                have d2 : decide ((4 : Int) < (bs.length : Int)) = true := decide_eq_true (by omega)
                clear hl1
                go_wp2_with fail
                go_meet
                exact ⟨rfl, rfl⟩
              case neg =>
                obtain rfl : i = bs.length := by omega
                clear hl1
                go_wp2_with fail
                go_meet
                exact ⟨rfl, rfl⟩
            case rest =>
              obtain ⟨rfl, rfl⟩ := hcut
              obtain ⟨wo, rfl⟩ : ∃ wo : World, wo = wc := ⟨_, rfl⟩
              obtain ⟨Al, cl, e, hcl, hlC⟩ := HL.out.reads
              subst e
              have hll : ((bs.take i).map (fun b => Int.tmod b g.terms.length)).length ≤ 4 := by rw [List.length_map, List.length_take]; omega
              generalize (bs.take i).map (fun b => Int.tmod b g.terms.length) = l at *
              have hst := (rulOk_of_valid HV.out).2.1
              have hst0 := hst.1
              have hst1 := hst.2
              have HRV := Aside0.mk (rulOk_of_valid HV.out)
              have HCL := Aside0.mk hcl
              have HLC := Aside0.mk hlC
              have KD := Aside0.mk (show ∀ cur, Below wo.heap.size wo cur → Calls Try.prog 15 #[.agg #[.slice At g.terms.length ct, .slice An g.nonterms.length cn, .int .i64 g.start, .slice Ar g.rules.length cr], .slice Al l.length cl] cur (DPost g l cur) from fun cur hb =>
                derives g l cur Al cl At ct An cn Ar cr (KZ.out cur (HBo.out.trans (hb.mono HBo.out.size))).2.1 (Kd.C_below HLC.out hb) HCL.out HRV.out.1 HRV.out.2.2.2.1 (by omega))
              have KG := Aside0.mk (show ∀ cur, Below wo.heap.size wo cur → (cur.cell? ⟨w.heap.size, 0, none⟩ = some (.slice At g.terms.length ct) ∧ cur.cell? ⟨w.heap.size, 1, none⟩ = some (.slice An g.nonterms.length cn) ∧ cur.cell? ⟨w.heap.size, 2, none⟩ = some (.int .i64 g.start) ∧ cur.cell? ⟨w.heap.size, 3, none⟩ = some (.slice Ar g.rules.length cr)) from fun cur hb => (KZ.out cur (HBo.out.trans (hb.mono HBo.out.size))).1)
              clear hcl hlC hst HL HO HLT
              obtain ⟨z0, z1, z2, z3⟩ := KG.out wo (Below.refl _ _)
              go_upto_region 8 with fail
              go_cut [7] (fun v7 wc => ∃ isd : Bool, v7 = .bool isd ∧ Aside0 (isd = true ↔ Der g.rules l g.start 0 l.length) ∧ Aside0 (Below wo.heap.size wo wc))
              case first =>
                go_region_with (first
                  | (go_at_call 15; refine (KD.out _ ?hcur).mono ?_; (case hcur => first | exact Below.refl _ _ | exact below_drew1 (Below.refl _ _)); rintro e w8 ⟨B, T, rfl, ht, hBl, hb8, hiff⟩; obtain ⟨t1, t2, t3, _⟩ := ht.at (a := g.start.toNat) (q := 0) (j := l.length) (by omega) (Nat.zero_le _) (Nat.le_refl _); rw [show ((g.start.toNat : Nat) : Int) = g.start by omega] at t3; have HI8 := Aside0.mk (hiff g.start 0 l.length (Nat.zero_le _) (Nat.le_refl _)); have HB8 := Aside0.mk (show Below wo.heap.size wo w8 from Below.trans (by first | exact Below.refl _ _ | exact below_drew1 (Below.refl _ _)) (hb8.mono (Nat.le_refl _))); obtain ⟨y0, y1, y2, y3⟩ := KG.out w8 HB8.out; clear hBl hiff ht hb8))
                all_goals (go_wp2_with fail; go_meet)
                all_goals exact ⟨_, rfl, HI8, ⟨by first | exact HB8.out | exact below_drew1 HB8.out⟩⟩
              case rest =>
              obtain ⟨isd, rfl, HI8, HB8⟩ := hcut
              obtain ⟨w8, rfl⟩ : ∃ w8 : World, w8 = wc := ⟨_, rfl⟩
              clear z0 z1 z2 z3
              have HBg := Aside0.mk (HBo.out.trans (HB8.out.mono HBo.out.size))
              have HLC8 := Aside0.mk (Kd.C_below HLC.out HB8.out)
              obtain ⟨⟨z0, z1, z2, z3⟩, _⟩ := KZ.out w8 HBg.out
              clear KD KG HLC
              go_wp2_with fail
              clear z0 z1 z2 z3
              refine (reduce g w8 (KZ.out w8 HBg.out).2.2.2.1 At ct An cn Ar cr (KZ.out w8 HBg.out).2.1).mono ?_
              rcases reduceR_cases g with hr | hr | hr
              case inl => exact absurd (HV.out.symm.trans hr.2) (by simp)
              case inr.inl =>
                rw [hr.1]
                have HF := Aside0.mk (show isd = false by
                  cases hi : isd with
                  | false => rfl
                  | true => exact absurd (HI8.out.1 hi) (no_der hr.2.1 hr.2.2 _ _ _))
                rintro e w9 ⟨Bt, dt, Bn, dn, Br, dr, Bf, df, rfl, hg9, hl9, hb9⟩
                have HB9 := Aside0.mk (HBg.out.trans (hb9.mono HBg.out.size))
                clear hb9 hg9 hl9 hr
                go_wp2_with fail
                refine (awake _ (KZ.out _ (HB9.out.alloc HB9.out.size _)).2.2.2.1).mono ?_
                rintro e wa ⟨rfl, hba⟩
                have HBa := Aside0.mk (((KZ.out _ HB9.out).2.2.2.2.alloc (KZ.out _ HB9.out).2.2.2.2.size _).trans (hba.mono (by simp; have := (KZ.out _ HB9.out).2.2.2.2.size; omega)))
                clear hba
                rw [HF.out]
                go_wp2_with fail
                go_ret
                exact ⟨rfl, HBa.out⟩
              case inr.inr =>
                rw [hr.1]
                have HD := Aside0.mk (hr.2.der_iff l 0 l.length)
                have HVr := Aside0.mk hr.2.valid
                have hrt : (rG g).terms.length = g.terms.length := rfl
                have hrr : (rG g).rules.length ≤ g.rules.length := by
                  show (List.map _ (keptIdx (prL g) (useL g) g.rules g.rules.length)).length ≤ _
                  rw [List.length_map]; exact keptIdx_le _ _ _ _
                rintro e w9 ⟨Bt, dt, Bn, dn, Br, dr, Bf, df, rfl, hg9, hl9, hb9⟩
                have HB9 := Aside0.mk (HBg.out.trans (hb9.mono HBg.out.size))
                have HG9 := Aside0.mk (show GrC w9 Bt dt Bn dn Br dr (rG g) from (hg9 w9 (Ch.refl _ _)).1)
                have HLC9 := Aside0.mk (Kd.C_below HLC8.out hb9)
                clear hb9 hg9 hl9 hr HLC8
                generalize rG g = r at *
                obtain ⟨W9, hW9⟩ : ∃ W9, w9.alloc (.cells #[.slice Bt r.terms.length dt, .slice Bn r.nonterms.length dn, .int .i64 r.start, .slice Br r.rules.length dr] 25) = W9 := ⟨_, rfl⟩
                have hbx : Below w9.heap.size w9 W9 := by rw [← hW9]; exact below_alloc (Below.refl _ _) _
                have HX9 := Aside0.mk (show W9.heap[w9.heap.size]? = some (.cells #[.slice Bt r.terms.length dt, .slice Bn r.nonterms.length dn, .int .i64 r.start, .slice Br r.rules.length dr] 25 (0, 0)) by rw [← hW9]; exact blk_new _ _)
                have HBx := Aside0.mk (HB9.out.trans (hbx.mono HB9.out.size))
                have HGx := Aside0.mk (HG9.out.below hbx)
                have HLx := Aside0.mk (Kd.C_below HLC9.out hbx)
                have hlxt := HRV.out
                have HRr := Aside0.mk (rulOk_of_valid HVr.out)
                have hrs0 := HRr.out.2.1.1
                have hrs1 := HRr.out.2.1.2
                have KR := Aside0.mk (show ∀ cur, Below W9.heap.size W9 cur → (cur.cell? ⟨w9.heap.size, 0, none⟩ = some (.slice Bt r.terms.length dt) ∧ cur.cell? ⟨w9.heap.size, 1, none⟩ = some (.slice Bn r.nonterms.length dn) ∧ cur.cell? ⟨w9.heap.size, 2, none⟩ = some (.int .i64 r.start) ∧ cur.cell? ⟨w9.heap.size, 3, none⟩ = some (.slice Br r.rules.length dr)) ∧ GrC cur Bt dt Bn dn Br dr r ∧ Kd.C (Kd.int .i64) cur Al l.length l ∧ Below W.heap.size W cur from fun cur hb =>
                  have k := blk_below HX9.out hb
                  ⟨⟨(blk_cell k 0).trans rfl, (blk_cell k 1).trans rfl, (blk_cell k 2).trans rfl, (blk_cell k 3).trans rfl⟩, HGx.out.below hb, Kd.C_below HLx.out hb, HBx.out.trans (hb.mono HBx.out.size)⟩)
                have KX := Aside0.mk (blk_lt HX9.out)
                obtain ⟨⟨x0, x1, x2, x3⟩, _⟩ := KR.out W9 (Below.refl _ _)
                have d1 : decide ((g.rules.length : Int) < (r.rules.length : Int)) = false := decide_eq_false (by omega)
                have d2 : ((r.terms.length : Int) != (g.terms.length : Int)) = false := by rw [hrt]; simp
                have HRT := Aside0.mk hrt
                clear hrt hlxt hbx HG9 HLC9 HX9 HGx HLx HB9
                go_wp2_with fail
                clear hW9
                refine (Ref.valid r W9 Bt dt Bn dn Br dr (KR.out W9 (Below.refl _ _)).2.1).mono ?_
                rintro e wa ⟨rfl, hba⟩
                rw [HVr.out]
                have HBa := Aside0.mk (show Below W9.heap.size W9 wa from hba)
                clear hba x0 x1 x2 x3
                obtain ⟨⟨x0, x1, x2, x3⟩, _⟩ := KR.out wa HBa.out
                obtain ⟨⟨z0, z1, z2, z3⟩, _⟩ := KZ.out wa (KR.out wa HBa.out).2.2.2
                go_wp2_with fail
                clear x0 x1 x2 x3 z0 z1 z2 z3 d1 d2
                have KA := Aside0.mk (show ∀ cur, Below W9.heap.size W9 cur → Calls Try.prog 9 #[] cur (fun e w' => e = .returned (.bool true) ∧ Below W9.heap.size W9 w') from fun cur hb => by
                  refine (awake cur (KZ.out cur (KR.out cur hb).2.2.2).2.2.2.1).mono ?_
                  rintro e w' ⟨rfl, hb'⟩
                  exact ⟨rfl, hb.trans (hb'.mono hb.size)⟩)
                have KD := Aside0.mk (show ∀ cur, Below W9.heap.size W9 cur → Calls Try.prog 15 #[.agg #[.slice Bt r.terms.length dt, .slice Bn r.nonterms.length dn, .int .i64 r.start, .slice Br r.rules.length dr], .slice Al l.length cl] cur (DPost r l cur) from fun cur hb =>
                  derives r l cur Al cl Bt dt Bn dn Br dr (KR.out cur hb).2.1 (KR.out cur hb).2.2.1 HCL.out HRr.out.1 HRr.out.2.2.2.1 (by omega))
                obtain ⟨⟨x0, x1, x2, x3⟩, _⟩ := KR.out wa HBa.out
                go_upto_region 14 with fail
                go_region_with (first
                  | (go_at_call 9; refine (KA.out _ ?hcur).mono ?_; (case hcur => first | exact HBa.out | exact below_drew1 HBa.out); rintro e wc2 ⟨rfl, hbc⟩; have HBc := Aside0.mk hbc; clear hbc; obtain ⟨⟨y0, y1, y2, y3⟩, _⟩ := KR.out _ HBc.out)
                    | (go_at_call 15; refine (KD.out _ ?hcur).mono ?_; (case hcur => first | exact HBc.out | exact below_drew1 HBc.out); rintro e wd ⟨B2, T2, rfl, ht, hBl, hbd, hiff⟩; obtain ⟨t1, t2, t3, _⟩ := ht.at (a := r.start.toNat) (q := 0) (j := l.length) (by omega) (Nat.zero_le _) (Nat.le_refl _); rw [show ((r.start.toNat : Nat) : Int) = r.start by omega, show T2 r.start 0 l.length = isd from Bool.eq_iff_iff.2 ((hiff r.start 0 l.length (Nat.zero_le _) (Nat.le_refl _)).trans (HD.out.trans HI8.out.symm))] at t3; have HBd := Aside0.mk (show Below W9.heap.size W9 wd from by first | exact HBc.out.trans (hbd.mono HBc.out.size) | exact (below_drew1 HBc.out).trans (hbd.mono HBc.out.size)); clear hBl hiff ht hbd; obtain ⟨⟨u0, u1, u2, u3⟩, _⟩ := KR.out _ HBd.out))
                all_goals (go_wp2_with fail; go_ret)
                all_goals exact ⟨rfl, by first | exact (KZ.out _ (KR.out _ HBd.out).2.2.2).2.2.2.2 | exact (KZ.out _ (KR.out _ (below_drew1 HBd.out)).2.2.2).2.2.2.2⟩
end Go.Proofs.Ytadednkdhblpfaa.Law
