/- emendateref22.productive, Productive, walked. -/
import Derived.Test.YtadednkdhblpfaaRef22a
import Derived.Test.YtadednkdhblpfaaRedSpec
namespace Go.Proofs.Ytadednkdhblpfaa.Ref
open Go.RowKit Go.Proofs.YtadednkdhblpfaaW.PrintWords Go.Proofs.YtadednkdhblpfaaW.PrintLast Go.Proofs.YtadednkdhblpfaaW.PrintMore Go.Proofs.Ytadednkdhblpfaa.B Go.Proofs.Ytadednkdhblpfaa.Val Go.Proofs.Ytadednkdhblpfaa.Ana Go.Proofs.Ytadednkdhblpfaa.Red
set_option linter.unusedVariables false
set_option linter.unusedSimpArgs false

/-- a body whose first k symbols are alive -/
theorem works_all {out : List Bool} {l : List Int} (h : ∀ j : Nat, j < l.length → dead out (rd l j) = false) : worksB out l = true := by
  unfold worksB
  rw [Bool.not_eq_true', List.any_eq_false]
  intro x hx
  obtain ⟨j, hj, rfl⟩ := List.getElem_of_mem hx
  have := h j hj
  rw [rd_nat _ _ hj] at this
  rw [this]; simp
theorem works_dead {out : List Bool} {l : List Int} {x : Int} (hx : x ∈ l) (h : dead out x = true) : worksB out l = false := by
  unfold worksB
  rw [Bool.not_eq_false', List.any_eq_true]
  exact ⟨x, hx, h⟩

set_option maxHeartbeats 1000000 in
set_option maxRecDepth 100000 in
theorem productive1 (Ap : Option Addr) (cp : Nat) (out : List Bool) (A0 : Option Addr) (c0 : Nat) (l : List Int) (w : World)
    (hp : Kd.C Kd.bool w Ap out.length out) (hcp : out.length ≤ cp) (hb : Kd.C (Kd.int .i64) w A0 l.length l) (hc : l.length ≤ c0) (hx : ∀ x ∈ l, x < 0 → -x ≤ out.length) :
    Calls Try.prog 24 #[.slice Ap out.length cp, .slice A0 l.length c0] w fun e w' => e = .returned (.bool (worksB out l)) ∧ w = w' := by
  have hm : l.length ≤ 9223372036854775807 := hb.2.1
  have hmo : out.length ≤ 9223372036854775807 := hp.2.1
  have HP := Aside0.mk hp
  have HB := Aside0.mk hb
  have HX := Aside0.mk hx
  clear hp hcp hb hc hx
  go_enter Try.func24, Try.ntmps24
  go_wp2_with fail
  go_loop [5] (fun i => ∃ k : Nat, i = .int .i64 k ∧ k ≤ l.length ∧ Aside0 (∀ j : Nat, j < k → dead out (rd l j) = false)) (fun i => l.length - (intOf i).toNat)
  case atStart => exact ⟨0, rfl, Nat.zero_le _, ⟨fun j hj => absurd hj (by omega)⟩⟩
  case round =>
    obtain ⟨k, rfl, hk, HI⟩ := hrel
    by_cases hlt : k < l.length
    · obtain ⟨ad, e, hx⟩ := at_int HB.out k hlt
      cases e
      have HMx := Aside0.mk (rd_mem l k hlt)
      have q1 : (k : Int) < (l.length : Int) := by omega
      have hd : decide ((k : Int) < (l.length : Int)) = true := decide_eq_true (by omega)
      generalize hxe : rd l k = x at *
      have HXE := Aside0.mk hxe
      clear hxe
      by_cases hneg : x < 0
      · have h2 := HX.out x HMx.out hneg
        have hd2 : decide (x < 0) = true := decide_eq_true hneg
        obtain ⟨pd, e, hy⟩ := at_bool HP.out (-1 - x).toNat (by omega)
        cases e
        rw [show (((-1 - x).toNat : Nat) : Int) = -1 - x by omega] at hy
        have hb2 : 0 ≤ -1 - x ∧ -1 - x < (out.length : Int) := by omega
        cases hz : rdOf false out (-1 - x) with
        | true =>
          rw [hz] at hy
          have HI2 := Aside0.mk (show ∀ j : Nat, j < k + 1 → dead out (rd l j) = false from fun j hj => by
            rcases Nat.lt_succ_iff_lt_or_eq.1 hj with h | rfl
            · exact HI.out j h
            · rw [HXE.out]; unfold dead; rw [hz]; simp)
          clear HI hz
          go_wp2_with fail
          go_round
          case rel => exact ⟨k + 1, by simp, by omega, HI2⟩
          case measure => simp [intOf]; omega
        | false =>
          rw [hz] at hy
          have HF := Aside0.mk (works_dead HMx.out (show dead out x = true by unfold dead; rw [hz, hd2]; rfl))
          clear HI hz
          go_wp2_with fail
          go_ret
          exact ⟨rb HF.out, rfl⟩
      · have hd2 : decide (x < 0) = false := decide_eq_false hneg
        have HI2 := Aside0.mk (show ∀ j : Nat, j < k + 1 → dead out (rd l j) = false from fun j hj => by
          rcases Nat.lt_succ_iff_lt_or_eq.1 hj with h | rfl
          · exact HI.out j h
          · rw [HXE.out]; unfold dead; rw [hd2]; simp)
        clear HI
        go_wp2_with fail
        go_round
        case rel => exact ⟨k + 1, by simp, by omega, HI2⟩
        case measure => simp [intOf]; omega
    · obtain rfl : k = l.length := by omega
      have HF := Aside0.mk (works_all HI.out)
      go_wp2_with fail
      go_ret
      exact ⟨rb HF.out, rfl⟩

theorem works_ok (out : List Bool) (l : List Int) : worksB out l = l.all (okSym true out) := by
  unfold worksB
  induction l with
  | nil => rfl
  | cons x r ih =>
    rw [List.any_cons, List.all_cons, Bool.not_or, ih]
    congr 1
    unfold dead okSym
    by_cases hn : x < 0
    · rw [decide_eq_true hn, decide_eq_false (show ¬ x ≥ 0 by omega)]; simp
    · rw [decide_eq_false hn, decide_eq_true (show x ≥ 0 by omega)]; simp

/-- a list of bools, of one's own, comes back -/
def BoolsPost (w : World) (n : Nat) (Q : List Bool → Prop) (e : Ending) (w' : World) : Prop :=
  ∃ A c out, e = .returned (.slice A n c) ∧ n ≤ c ∧ out.length = n ∧ Q out ∧ Kd.R Kd.bool 4 w' w.heap.size (fun _ => True) (.slice A n c) out ∧ Kd.C Kd.bool w' A n out ∧ Below w.heap.size w w'

set_option maxHeartbeats 4000000 in
set_option maxRecDepth 100000 in
theorem productive (g : Gr) (w : World)
    (At : Option Addr) (ct : Nat) (An : Option Addr) (cn : Nat) (Ar : Option Addr) (cr : Nat) (hg : GrC w At ct An cn Ar cr g)
    (hr : ∀ r ∈ g.rules, RulOk g.nonterms.length r) (hn : g.nonterms.length ≤ 140737488351232) :
    Calls Try.prog 22 #[.agg #[.slice At g.terms.length ct, .slice An g.nonterms.length cn, .int .i64 g.start, .slice Ar g.rules.length cr]] w
      (BoolsPost w g.nonterms.length (HeadsOut g.rules g.nonterms.length true)) := by
  have HG := Aside0.mk hg
  have HR := Aside0.mk hr
  have hm : g.rules.length ≤ 9223372036854775807 := hg.rules.2.1
  clear hg hr
  have hmk := print_make_of (P := Try.prog) 36 4 (.bool false) 1 Try.underlying36 info_bool rfl (by omega) g.nonterms.length (by omega)
  obtain ⟨W0, hW0⟩ : ∃ W0, (w.alloc (.cells #[.slice At g.terms.length ct, .slice An g.nonterms.length cn, .int .i64 g.start, .slice Ar g.rules.length cr] 25)).alloc (.cells (madeCells #[.bool false] g.nonterms.length) 4) = W0 := ⟨_, rfl⟩
  have HM0 := Aside0.mk (show UMem g w W0 #[.slice At g.terms.length ct, .slice An g.nonterms.length cn, .int .i64 g.start, .slice Ar g.rules.length cr] (List.replicate g.nonterms.length false) by
    rw [← hW0]
    refine ⟨blk_alloc (blk_new w _) _, ?_, ((Below.refl _ _).alloc (Nat.le_refl _) _).alloc (by simp) _⟩
    have := blk_new (w.alloc (.cells #[.slice At g.terms.length ct, .slice An g.nonterms.length cn, .int .i64 g.start, .slice Ar g.rules.length cr] 25)) (.cells (madeCells #[.bool false] g.nonterms.length) 4)
    rw [← made_falses]
    simpa using this)
  go_enter Try.func22, Try.ntmps22
  go_wp2_with fail
  clear hW0 hmk
  go_loopg [4] (2 * falses (List.replicate g.nonterms.length false) + 2) (fun kq m wr => ∃ (mo : Bool) (out : List Bool), m = .bool mo ∧ Aside0 (2 * falses out + (if mo then 1 else 0) < kq) ∧ Aside0 (mo = false → ∀ r ∈ g.rules, chg true out r = false) ∧ Aside0 (out.length = g.nonterms.length ∧ ∀ k : Nat, k < g.nonterms.length → rdOf false out k = true → HP g.rules true k) ∧ Aside0 (UMem g w wr #[.slice At g.terms.length ct, .slice An g.nonterms.length cn, .int .i64 g.start, .slice Ar g.rules.length cr] out))
  case atStart => exact ⟨true, _, rfl, ⟨by simp⟩, ⟨fun h => by cases h⟩, ⟨by simp, fun k hk h => by simp [rdOf, List.getD_eq_getElem?_getD, hk] at h⟩, HM0⟩
  case round =>
    clear HM0
    obtain ⟨mo, out0, rfl, HQ, HS, HI, HM⟩ := hrel
    obtain ⟨wo, rfl⟩ : ∃ wo : World, wo = wr := ⟨_, rfl⟩
    cases mo with
    | false =>
      have HO := Aside0.mk (show HeadsOut g.rules g.nonterms.length true out0 from ⟨HI.out.1, fun k hk => ⟨HI.out.2 k hk, heads_all HR.out (HS.out rfl)⟩⟩)
      have hv := bools_own (base := w.heap.size) HM.out.a (by omega) (by rw [HI.out.1]; unfold maxLen; omega)
      have HC := Aside0.mk (show Kd.C Kd.bool wo (some ⟨w.heap.size + 1, 0, none⟩) g.nonterms.length out0 by
        obtain ⟨A, c, e, _, hC⟩ := Kd.R_reads hv
        cases e; rw [HI.out.1] at hC; exact hC)
      rw [HI.out.1] at hv
      have HV := Aside0.mk hv
      clear hv HS
      go_wp2_with fail
      go_ret
      exact ⟨_, _, out0, rfl, Nat.le_refl _, HI.out.1, HO.out, HV.out, HC.out, HM.out.b⟩
    | true =>
      clear HS
      have c3 : wo.cell? ⟨w.heap.size, 3, none⟩ = some (.slice Ar g.rules.length cr) := (blk_cell HM.out.z 3).trans rfl
      have HQ1 := Aside0.mk (show 2 * falses out0 + 1 < gk from HQ.out)
      clear HQ
      go_wp2_with fail
      clear c3
      go_loopw [4, 5] (fun m i wr => ∃ (mo : Bool) (k : Nat) (out : List Bool), m = .bool mo ∧ i = .int .i64 k ∧ k ≤ g.rules.length ∧ Aside0 (mo = false → out = out0 ∧ ∀ j : Nat, j < k → chg true out0 (rdOf Rul.zero g.rules j) = false) ∧ Aside0 (mo = true → falses out < falses out0) ∧ Aside0 (out.length = g.nonterms.length ∧ ∀ k : Nat, k < g.nonterms.length → rdOf false out k = true → HP g.rules true k) ∧ Aside0 (UMem g w wr #[.slice At g.terms.length ct, .slice An g.nonterms.length cn, .int .i64 g.start, .slice Ar g.rules.length cr] out)) (fun _ i _ => g.rules.length - (intOf i).toNat)
      case atStart => exact ⟨false, 0, out0, rfl, rfl, by omega, ⟨fun _ => ⟨rfl, fun j hj => absurd hj (by omega)⟩⟩, ⟨fun h => by cases h⟩, HI, HM⟩
      case round =>
        clear HI HM
        obtain ⟨mo, k, out, rfl, rfl, hk, HS, HF, HI, HM⟩ := hrel
        obtain ⟨wp, rfl⟩ : ∃ wp : World, wp = wr := ⟨_, rfl⟩
        have c3 : wp.cell? ⟨w.heap.size, 3, none⟩ = some (.slice Ar g.rules.length cr) := (blk_cell HM.out.z 3).trans rfl
        by_cases hlt : k < g.rules.length
        · obtain ⟨ad, A1, c1, e, h1, h2, h3, hl, hc⟩ := at_rul (Kd.C_below HG.out.rules HM.out.b) k hlt
          have HMem := Aside0.mk (rdOf_mem Rul.zero g.rules k hlt)
          have hd1 : decide ((k : Int) < (g.rules.length : Int)) = true := decide_eq_true (by omega)
          have q1 : (k : Int) < (g.rules.length : Int) := by omega
          have HC := Aside0.mk hc
          have HLc := Aside0.mk hl
          have hro := HR.out _ HMem.out
          clear hc hl h3
          cases e
          generalize hrx : rdOf Rul.zero g.rules k = rx at *
          have HRX := Aside0.mk hrx
          clear hrx
          have hh0 := hro.1
          have hh1 := hro.2.1
          have HRO := Aside0.mk hro
          clear hro
          have hol := HI.out.1
          have h4 := arr_cell HM.out.a rx.head.toNat (by omega)
          rw [show ((rx.head.toNat : Nat) : Int) = rx.head by omega] at h4
          have hcb := blk_frozen HM.out.a rx.head.toNat
          have HOL := Aside0.mk hol
          have hb4 : 0 ≤ rx.head ∧ rx.head < (g.nonterms.length : Int) := ⟨hh0, hh1⟩
          clear hol
          cases hh : rdOf false out rx.head with
          | true =>
            rw [hh] at h4
            have HS2 := Aside0.mk (show mo = false → out = out0 ∧ ∀ j : Nat, j < k + 1 → chg true out0 (rdOf Rul.zero g.rules j) = false from fun h => ⟨(HS.out h).1, fun j hj => by
              rcases Nat.lt_succ_iff_lt_or_eq.1 hj with h' | rfl
              · exact (HS.out h).2 j h'
              · rw [HRX.out, ← (HS.out h).1]; unfold chg; rw [hh]; rfl⟩)
            clear hh HS
            go_wp2_with fail
            go_roundw
            case rel => exact ⟨mo, k + 1, out, rfl, by simp, by omega, HS2, HF, HI, HM⟩
            case measure => simp [intOf]; omega
          | false =>
            rw [hh] at h4
            have HH := Aside0.mk hh
            have HCP := Aside0.mk (show Kd.C Kd.bool wp (some ⟨w.heap.size + 1, 0, none⟩) out.length out by
              have hv := bools_own (base := w.heap.size) HM.out.a (by omega) (by rw [HI.out.1]; unfold maxLen; omega)
              obtain ⟨A, c, e, _, hC⟩ := Kd.R_reads hv
              cases e; exact hC)
            have key : ∀ (Q : Ending → World → Prop), Q (.returned (.bool (worksB out rx.body))) wp → Calls Try.prog 24 #[.slice (some ⟨w.heap.size + 1, 0, none⟩) g.nonterms.length g.nonterms.length, .slice A1 rx.body.length c1] wp Q := fun Q hQ => by
              have hp1 := productive1 (some ⟨w.heap.size + 1, 0, none⟩) out.length out A1 c1 rx.body wp HCP.out (Nat.le_refl _) HC.out HLc.out (fun x hx hneg => by rw [HOL.out]; exact HRO.out.2.2 x hx hneg)
              rw [HOL.out] at hp1
              refine hp1.mono ?_
              rintro e w' ⟨rfl, rfl⟩
              exact hQ
            have HK := Aside0.mk key
            clear hh key
            cases hw : worksB out rx.body with
            | true =>
              have HW := Aside0.mk hw
              have HChg := Aside0.mk (show chg true out rx = true by unfold chg; rw [HH.out, ← works_ok, hw]; rfl)
              have HF2 := Aside0.mk (show falses (out.set rx.head.toNat true) < falses out0 by
                have hlt' : falses (out.set rx.head.toNat true) < falses out := falses_set out _ (by rw [HOL.out]; omega) (by rw [show (((rx.head.toNat : Nat)) : Int) = rx.head by omega]; exact HH.out)
                cases mo with
                | true => exact Nat.lt_trans hlt' (HF.out rfl)
                | false => rw [(HS.out rfl).1] at hlt' ⊢; exact hlt')
              have HI2 := Aside0.mk (show (out.set rx.head.toNat true).length = g.nonterms.length ∧ ∀ k : Nat, k < g.nonterms.length → rdOf false (out.set rx.head.toNat true) k = true → HP g.rules true k from ⟨by rw [List.length_set]; exact HI.out.1, heads_step HI.out.1 HR.out HI.out.2 HMem.out HChg.out⟩)
              have HM2 := Aside0.mk (HM.out.put rx.head.toNat true)
              clear hw HS HF HI HM
              go_wp2_with fail
              refine HK.out _ ?_
              rw [HW.out]
              go_wp2_with fail
              go_roundw
              case rel => exact ⟨true, k + 1, _, rfl, by simp, by omega, ⟨fun h => by cases h⟩, ⟨fun _ => HF2.out⟩, HI2, HM2⟩
              case measure => simp [intOf]; omega
            | false =>
              have HW := Aside0.mk hw
              have HS2 := Aside0.mk (show mo = false → out = out0 ∧ ∀ j : Nat, j < k + 1 → chg true out0 (rdOf Rul.zero g.rules j) = false from fun h => ⟨(HS.out h).1, fun j hj => by
                rcases Nat.lt_succ_iff_lt_or_eq.1 hj with h' | rfl
                · exact (HS.out h).2 j h'
                · rw [HRX.out, ← (HS.out h).1]; unfold chg; rw [← works_ok, hw]; simp⟩)
              clear hw HS
              go_wp2_with fail
              refine HK.out _ ?_
              rw [HW.out]
              go_wp2_with fail
              go_roundw
              case rel => exact ⟨mo, k + 1, out, rfl, by simp, by omega, HS2, HF, HI, HM⟩
              case measure => simp [intOf]; omega
        · obtain rfl : k = g.rules.length := by omega
          have HQ2 := Aside0.mk (show 2 * falses out + (if mo then 1 else 0) < 2 * falses out0 + 1 by
            cases mo with
            | true => have := HF.out rfl; simp; omega
            | false => rw [(HS.out rfl).1]; simp)
          have HS2 := Aside0.mk (show mo = false → ∀ r ∈ g.rules, chg true out r = false from fun h r hr => by
            obtain ⟨j, hj, rfl⟩ := List.getElem_of_mem hr
            have := (HS.out h).2 j hj
            rw [rdOf_nat Rul.zero g.rules j hj] at this
            rw [(HS.out h).1]; exact this)
          clear HS HF
          go_wp2_with fail
          go_roundg (2 * falses out0 + 1)
          case measure => exact HQ1.out
          case rel => exact ⟨mo, out, rfl, HQ2, HS2, HI, HM⟩
end Go.Proofs.Ytadednkdhblpfaa.Ref
