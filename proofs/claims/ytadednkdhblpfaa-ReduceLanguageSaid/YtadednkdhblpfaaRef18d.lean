/- emendateref18.Equal, walked. -/
import Derived.Test.YtadednkdhblpfaaRef18c
import Derived.BigRegion
import Derived.Deep.CutRange
namespace Go.Proofs.Ytadednkdhblpfaa.Ref
open Go.RowKit Go.Proofs.YtadednkdhblpfaaW.PrintWords Go.Proofs.YtadednkdhblpfaaW.PrintLast Go.Proofs.YtadednkdhblpfaaW.PrintMore Go.Proofs.Ytadednkdhblpfaa.B Go.Proofs.Ytadednkdhblpfaa.Val
set_option linter.unusedVariables false
set_option linter.unusedSimpArgs false

instance : DecidableEq Gr := fun a b =>
  if h : a.terms = b.terms ∧ a.nonterms = b.nonterms ∧ a.start = b.start ∧ a.rules = b.rules then
    .isTrue (by cases a; cases b; simp_all)
  else .isFalse (fun e => h (by rw [e]; exact ⟨rfl, rfl, rfl, rfl⟩))

theorem rul_ext {x y : Rul} (h0 : x.head = y.head) (h1 : x.price = y.price) (h2 : x.body = y.body) : x = y := by
  cases x; cases y; simp_all
theorem rules_eq {xs ys : List Rul} (hl : xs.length = ys.length) (h : ∀ k, k < xs.length → rdOf Rul.zero xs (k : Nat) = rdOf Rul.zero ys (k : Nat)) : xs = ys := by
  apply List.ext_getElem hl
  intro i h1 h2
  have := h i h1
  rwa [rdOf_nat _ _ _ h1, rdOf_nat _ _ _ h2] at this
theorem ints_eq {xs ys : List Int} (hl : xs.length = ys.length) (h : ∀ k : Nat, k < xs.length → rd xs k = rd ys k) : xs = ys := by
  apply List.ext_getElem hl
  intro i h1 h2
  have := h i h1
  rwa [rd_nat _ _ h1, rd_nat _ _ h2] at this

theorem new0 (w : World) (o o2 : Obj) : ((w.alloc o).alloc o2).heap[w.heap.size]? = some o := blk_alloc (blk_new w o) o2
theorem new1 (w : World) (o o2 : Obj) : ((w.alloc o).alloc o2).heap[w.heap.size + 1]? = some o2 := by
  have := blk_new (w.alloc o) o2; simpa using this

set_option maxHeartbeats 4000000 in
set_option maxRecDepth 100000 in
theorem equal (a b : Gr) (w : World)
    (At : Option Addr) (ct : Nat) (An : Option Addr) (cn : Nat) (Ar : Option Addr) (cr : Nat) (ha : GrC w At ct An cn Ar cr a)
    (Bt : Option Addr) (dt : Nat) (Bn : Option Addr) (dn : Nat) (Br : Option Addr) (dr : Nat) (hb : GrC w Bt dt Bn dn Br dr b) :
    Calls Try.prog 12 #[.agg #[.slice At a.terms.length ct, .slice An a.nonterms.length cn, .int .i64 a.start, .slice Ar a.rules.length cr], .agg #[.slice Bt b.terms.length dt, .slice Bn b.nonterms.length dn, .int .i64 b.start, .slice Br b.rules.length dr]] w
      fun e w' => e = .returned (.bool (decide (a = b))) ∧ Below w.heap.size w w' := by
  have HA := Aside0.mk ha
  have HB := Aside0.mk hb
  clear ha hb
  generalize hW0 : (w.alloc (.cells #[.slice At a.terms.length ct, .slice An a.nonterms.length cn, .int .i64 a.start, .slice Ar a.rules.length cr] 25)).alloc (.cells #[.slice Bt b.terms.length dt, .slice Bn b.nonterms.length dn, .int .i64 b.start, .slice Br b.rules.length dr] 25) = W0
  have ZA := Aside0.mk (show W0.heap[w.heap.size]? = some (.cells #[.slice At a.terms.length ct, .slice An a.nonterms.length cn, .int .i64 a.start, .slice Ar a.rules.length cr] 25 (0, 0)) by rw [← hW0]; exact blk_alloc (blk_new _ _) _)
  have ZB := Aside0.mk (show W0.heap[w.heap.size + 1]? = some (.cells #[.slice Bt b.terms.length dt, .slice Bn b.nonterms.length dn, .int .i64 b.start, .slice Br b.rules.length dr] 25 (0, 0)) by
    rw [← hW0]; have := blk_new (w.alloc (.cells #[.slice At a.terms.length ct, .slice An a.nonterms.length cn, .int .i64 a.start, .slice Ar a.rules.length cr] 25)) (.cells #[.slice Bt b.terms.length dt, .slice Bn b.nonterms.length dn, .int .i64 b.start, .slice Br b.rules.length dr] 25); simpa using this)
  have HL := Aside0.mk (show Below w.heap.size w W0 by rw [← hW0]; exact ((Below.refl _ _).alloc (Nat.le_refl _) _).alloc (by simp) _)
  have HW := Aside0.mk hW0
  clear hW0
  have t0 : W0.cell? ⟨w.heap.size, 0, none⟩ = some (.slice At a.terms.length ct) := (blk_cell (ZA.out) 0).trans rfl
  have t1 : W0.cell? ⟨w.heap.size, 1, none⟩ = some (.slice An a.nonterms.length cn) := (blk_cell (ZA.out) 1).trans rfl
  have t2 : W0.cell? ⟨w.heap.size, 2, none⟩ = some (.int .i64 a.start) := (blk_cell (ZA.out) 2).trans rfl
  have t3 : W0.cell? ⟨w.heap.size, 3, none⟩ = some (.slice Ar a.rules.length cr) := (blk_cell (ZA.out) 3).trans rfl
  have s0 : W0.cell? ⟨w.heap.size + 1, 0, none⟩ = some (.slice Bt b.terms.length dt) := (blk_cell (ZB.out) 0).trans rfl
  have s1 : W0.cell? ⟨w.heap.size + 1, 1, none⟩ = some (.slice Bn b.nonterms.length dn) := (blk_cell (ZB.out) 1).trans rfl
  have s2 : W0.cell? ⟨w.heap.size + 1, 2, none⟩ = some (.int .i64 b.start) := (blk_cell (ZB.out) 2).trans rfl
  have s3 : W0.cell? ⟨w.heap.size + 1, 3, none⟩ = some (.slice Br b.rules.length dr) := (blk_cell (ZB.out) 3).trans rfl

  by_cases g0 : a.terms = b.terms
  case neg =>
    have G0 := Aside0.mk (decide_eq_false g0)
    have HF := Aside0.mk (show decide (a = b) = false from decide_eq_false (fun e => g0 (by rw [e])))
    clear g0
    go_enter Try.func12, Try.ntmps12
    go_wp2_with fail
    rw [HW.out]
    refine (sameNames At ct a.terms Bt dt b.terms _ (Kd.C_below HA.out.terms HL.out) HA.out.lt (Kd.C_below HB.out.terms HL.out) HB.out.lt).mono ?_
    rintro e w1 ⟨rfl, ⟨m1, rfl⟩⟩
    rw [G0.out]
    go_wp2_with fail
    go_ret
    exact ⟨rb HF.out, by repeat (first | exact HL.out | apply pw_below_drewN | apply below_drew1)⟩
  have G0 := Aside0.mk (decide_eq_true g0)
  have E0 := Aside0.mk g0
  clear g0
  by_cases g1 : a.nonterms = b.nonterms
  case neg =>
    have G1 := Aside0.mk (decide_eq_false g1)
    have HF := Aside0.mk (show decide (a = b) = false from decide_eq_false (fun e => g1 (by rw [e])))
    clear g1
    go_enter Try.func12, Try.ntmps12
    go_wp2_with fail
    rw [HW.out]
    refine (sameNames At ct a.terms Bt dt b.terms _ (Kd.C_below HA.out.terms HL.out) HA.out.lt (Kd.C_below HB.out.terms HL.out) HB.out.lt).mono ?_
    rintro e w1 ⟨rfl, ⟨m1, rfl⟩⟩
    rw [G0.out]
    go_wp2_with fail
    refine (sameNames An cn a.nonterms Bn dn b.nonterms _ (Kd.C_drewN (Kd.C_below HA.out.nonterms HL.out) _) HA.out.ln (Kd.C_drewN (Kd.C_below HB.out.nonterms HL.out) _) HB.out.ln).mono ?_
    rintro e w1 ⟨rfl, ⟨m2, rfl⟩⟩
    rw [G1.out]
    go_wp2_with fail
    go_ret
    exact ⟨rb HF.out, by repeat (first | exact HL.out | apply pw_below_drewN | apply below_drew1)⟩
  have G1 := Aside0.mk (decide_eq_true g1)
  have E1 := Aside0.mk g1
  clear g1
  by_cases g2 : a.start = b.start
  case neg =>
    have d2 : (a.start != b.start) = true := bne_iff_ne.2 g2
    have HF := Aside0.mk (show decide (a = b) = false from decide_eq_false (fun e => g2 (by rw [e])))
    clear g2
    go_enter Try.func12, Try.ntmps12
    go_wp2_with fail
    rw [HW.out]
    refine (sameNames At ct a.terms Bt dt b.terms _ (Kd.C_below HA.out.terms HL.out) HA.out.lt (Kd.C_below HB.out.terms HL.out) HB.out.lt).mono ?_
    rintro e w1 ⟨rfl, ⟨m1, rfl⟩⟩
    rw [G0.out]
    go_wp2_with fail
    refine (sameNames An cn a.nonterms Bn dn b.nonterms _ (Kd.C_drewN (Kd.C_below HA.out.nonterms HL.out) _) HA.out.ln (Kd.C_drewN (Kd.C_below HB.out.nonterms HL.out) _) HB.out.ln).mono ?_
    rintro e w1 ⟨rfl, ⟨m2, rfl⟩⟩
    rw [G1.out]
    go_wp2_with fail
    go_ret
    exact ⟨rb HF.out, by repeat (first | exact HL.out | apply pw_below_drewN | apply below_drew1)⟩
  have d2 : (a.start != b.start) = false := by rw [g2]; simp
  have E2 := Aside0.mk g2
  clear g2
  by_cases g3 : a.rules.length = b.rules.length
  case neg =>
    have d3 : ((a.rules.length : Int) != (b.rules.length : Int)) = true := by rw [bne_iff_ne]; omega
    have HF := Aside0.mk (show decide (a = b) = false from decide_eq_false (fun e => g3 (by rw [e])))
    clear g3
    go_enter Try.func12, Try.ntmps12
    go_wp2_with fail
    rw [HW.out]
    refine (sameNames At ct a.terms Bt dt b.terms _ (Kd.C_below HA.out.terms HL.out) HA.out.lt (Kd.C_below HB.out.terms HL.out) HB.out.lt).mono ?_
    rintro e w1 ⟨rfl, ⟨m1, rfl⟩⟩
    rw [G0.out]
    go_wp2_with fail
    refine (sameNames An cn a.nonterms Bn dn b.nonterms _ (Kd.C_drewN (Kd.C_below HA.out.nonterms HL.out) _) HA.out.ln (Kd.C_drewN (Kd.C_below HB.out.nonterms HL.out) _) HB.out.ln).mono ?_
    rintro e w1 ⟨rfl, ⟨m2, rfl⟩⟩
    rw [G1.out]
    go_wp2_with fail
    go_ret
    exact ⟨rb HF.out, by repeat (first | exact HL.out | apply pw_below_drewN | apply below_drew1)⟩
  have d3 : ((a.rules.length : Int) != (b.rules.length : Int)) = false := by rw [g3]; simp
  have HGood := Aside0.mk (show a.rules = b.rules → a = b from fun h => by
    have e0 := E0.out; have e1 := E1.out; have e2 := E2.out; clear HA HB ZA ZB HL HW G0 G1 E0 E1 E2 d2 d3; cases a; cases b; simp_all)
  have G3 := Aside0.mk g3
  have hm : a.rules.length ≤ 9223372036854775807 := HA.out.rules.2.1
  clear g3
  go_enter Try.func12, Try.ntmps12
  go_wp2_with fail
  rw [HW.out]
  refine (sameNames At ct a.terms Bt dt b.terms _ (Kd.C_below HA.out.terms HL.out) HA.out.lt (Kd.C_below HB.out.terms HL.out) HB.out.lt).mono ?_
  rintro e w1 ⟨rfl, ⟨m1, rfl⟩⟩
  rw [G0.out]
  go_wp2_with fail
  refine (sameNames An cn a.nonterms Bn dn b.nonterms _ (Kd.C_drewN (Kd.C_below HA.out.nonterms HL.out) _) HA.out.ln (Kd.C_drewN (Kd.C_below HB.out.nonterms HL.out) _) HB.out.ln).mono ?_
  rintro e w1 ⟨rfl, ⟨m2, rfl⟩⟩
  rw [G1.out]
  go_wp2_with fail
  have ZA2 := Aside0.mk (blk_drewN ZA.out (m1 + m2))
  have ZB2 := Aside0.mk (blk_drewN ZB.out (m1 + m2))
  have HL2 := Aside0.mk (pw_below_drewN HL.out (m1 + m2))
  clear t0 t1 t2 t3 s0 s1 s2 s3 ZA ZB HL HW d2 d3

  go_loopw [5] (fun i wr => ∃ k : Nat, i = .int .i64 k ∧ k ≤ a.rules.length ∧ Aside0 (∀ j : Nat, j < k → rdOf Rul.zero a.rules j = rdOf Rul.zero b.rules j) ∧ Aside0 (wr.heap[w.heap.size]? = some (.cells #[.slice At a.terms.length ct, .slice An a.nonterms.length cn, .int .i64 a.start, .slice Ar a.rules.length cr] 25 (0, 0))) ∧ Aside0 (wr.heap[w.heap.size + 1]? = some (.cells #[.slice Bt b.terms.length dt, .slice Bn b.nonterms.length dn, .int .i64 b.start, .slice Br b.rules.length dr] 25 (0, 0))) ∧ Aside0 (Below w.heap.size w wr)) (fun i _ => a.rules.length - (intOf i).toNat)
  case atStart => exact ⟨0, rfl, Nat.zero_le _, ⟨fun j hj => absurd hj (by omega)⟩, ZA2, ZB2, HL2⟩
  case round =>
    clear ZA2 ZB2 HL2
    obtain ⟨k, rfl, hk, HI, ZA, ZB, HL⟩ := hrel
    obtain ⟨wo, rfl⟩ : ∃ wo : World, wo = wr := ⟨_, rfl⟩
    have t3 : wo.cell? ⟨w.heap.size, 3, none⟩ = some (.slice Ar a.rules.length cr) := (blk_cell ZA.out 3).trans rfl
    have s3 : wo.cell? ⟨w.heap.size + 1, 3, none⟩ = some (.slice Br b.rules.length dr) := (blk_cell ZB.out 3).trans rfl
    by_cases hlt : k < a.rules.length
    · have hltb : k < b.rules.length := by rw [← G3.out]; exact hlt
      obtain ⟨ad, A1, c1, e, h1, h2, h3, hl, hc⟩ := at_rul (Kd.C_below HA.out.rules HL.out) k hlt
      obtain ⟨bd, B1, k1, e', i1, i2, i3, il, ic⟩ := at_rul (Kd.C_below HB.out.rules HL.out) k hltb
      have hd : decide ((k : Int) < (a.rules.length : Int)) = true := decide_eq_true (by omega)
      have q1 : (k : Int) < (a.rules.length : Int) := by omega
      have q2 : (k : Int) < (b.rules.length : Int) := by omega
      have HC := Aside0.mk hc
      have HD := Aside0.mk ic
      have lm : (rdOf Rul.zero a.rules k).body.length ≤ 9223372036854775807 := hc.2.1
      clear hc hl ic il
      cases e
      cases e'
      generalize hrx : rdOf Rul.zero a.rules k = rx at *
      generalize hry : rdOf Rul.zero b.rules k = ry at *
      have HX := Aside0.mk (show decide (a = b) = true → rx = ry from fun h => by rw [← hrx, ← hry, of_decide_eq_true h])
      have HE := Aside0.mk (show rx = ry → rdOf Rul.zero a.rules k = rdOf Rul.zero b.rules k from fun h => by rw [hrx, hry, h])
      clear hrx hry
      have lza := blk_lt ZA.out
      have lzb := blk_lt ZB.out
      have la1 := World.block_lt_of_cell? wo _ h1
      have la2 := World.block_lt_of_cell? wo _ h2
      have la3 := World.block_lt_of_cell? wo _ h3
      have lb1 := World.block_lt_of_cell? wo _ i1
      have lb2 := World.block_lt_of_cell? wo _ i2
      have lb3 := World.block_lt_of_cell? wo _ i3
      go_upto_region 6 with fail
      go_cut [6, 7] from 39 to 94 (fun v6 v7 wc => ∃ b6 b7 : Nat, v6 = .pointer (some ⟨b6, 0, none⟩) ∧ v7 = .pointer (some ⟨b7, 0, none⟩) ∧ Aside0 (wc.heap[b6]? = some (.cells #[.int .i64 rx.head, .slice A1 rx.body.length c1, .int .i64 rx.price] 42 (0, 0))) ∧ Aside0 (wc.heap[b7]? = some (.cells #[.int .i64 ry.head, .slice B1 ry.body.length k1, .int .i64 ry.price] 42 (0, 0))) ∧ Aside0 (Below wo.heap.size wo wc))
      case first =>
        go_region
        all_goals (go_wp2_with fail; go_meet)
        all_goals exact ⟨_, _, rfl, rfl, ⟨by first | exact new0 _ _ _ | exact new1 _ _ _⟩, ⟨by first | exact new0 _ _ _ | exact new1 _ _ _⟩, ⟨below_drew1 (((Below.refl wo.heap.size wo).alloc (Nat.le_refl _) _).alloc (by simp) _)⟩⟩
      case rest =>
        obtain ⟨b6, b7, rfl, rfl, H6, H7, HL6⟩ := hcut
        have ZA6 := Aside0.mk (blk_below ZA.out HL6.out)
        have ZB6 := Aside0.mk (blk_below ZB.out HL6.out)
        have HC6 := Aside0.mk (Kd.C_below HC.out HL6.out)
        have HD6 := Aside0.mk (Kd.C_below HD.out HL6.out)
        have HL7 := Aside0.mk (HL.out.trans (HL6.out.mono HL.out.size))
        have x0 : wc.cell? ⟨b6, 0, none⟩ = some (.int .i64 rx.head) := (blk_cell H6.out 0).trans rfl
        have x1 : wc.cell? ⟨b6, 1, none⟩ = some (.slice A1 rx.body.length c1) := (blk_cell H6.out 1).trans rfl
        have x2 : wc.cell? ⟨b6, 2, none⟩ = some (.int .i64 rx.price) := (blk_cell H6.out 2).trans rfl
        have y0 : wc.cell? ⟨b7, 0, none⟩ = some (.int .i64 ry.head) := (blk_cell H7.out 0).trans rfl
        have y1 : wc.cell? ⟨b7, 1, none⟩ = some (.slice B1 ry.body.length k1) := (blk_cell H7.out 1).trans rfl
        have y2 : wc.cell? ⟨b7, 2, none⟩ = some (.int .i64 ry.price) := (blk_cell H7.out 2).trans rfl
        clear h1 h2 h3 i1 i2 i3 lza lzb la1 la2 la3 lb1 lb2 lb3 t3 s3 ZA ZB HL HL6 HC HD H6 H7
        by_cases g4 : rx.head = ry.head
        case neg =>
          have d4 : (rx.head != ry.head) = true := bne_iff_ne.2 g4
          have HF := Aside0.mk (show decide (a = b) = false from Bool.eq_false_iff.2 (fun h => g4 (by rw [HX.out h])))
          clear g4
          go_wp2_with fail
          go_ret
          exact ⟨rb HF.out, HL7.out⟩
        have d4 : (rx.head != ry.head) = false := by rw [g4]; simp
        have E4 := Aside0.mk g4
        clear g4
        by_cases g5 : rx.price = ry.price
        case neg =>
          have d5 : (rx.price != ry.price) = true := bne_iff_ne.2 g5
          have HF := Aside0.mk (show decide (a = b) = false from Bool.eq_false_iff.2 (fun h => g5 (by rw [HX.out h])))
          clear g5
          go_wp2_with fail
          go_ret
          exact ⟨rb HF.out, HL7.out⟩
        have d5 : (rx.price != ry.price) = false := by rw [g5]; simp
        have E5 := Aside0.mk g5
        clear g5
        by_cases g6 : rx.body.length = ry.body.length
        case neg =>
          have d6 : ((rx.body.length : Int) != (ry.body.length : Int)) = true := by rw [bne_iff_ne]; omega
          have HF := Aside0.mk (show decide (a = b) = false from Bool.eq_false_iff.2 (fun h => g6 (by rw [HX.out h])))
          clear g6
          go_wp2_with fail
          go_ret
          exact ⟨rb HF.out, HL7.out⟩
        have d6 : ((rx.body.length : Int) != (ry.body.length : Int)) = false := by rw [g6]; simp
        have E6 := Aside0.mk g6
        clear g6
        go_wp2_with fail
        clear d4 d5 d6
        go_loopw [8] (fun i wr => ∃ j : Nat, i = .int .i64 j ∧ j ≤ rx.body.length ∧ Aside0 (∀ q : Nat, q < j → rd rx.body q = rd ry.body q) ∧ Drawn0 wc wr) (fun i _ => rx.body.length - (intOf i).toNat)
        case atStart => exact ⟨0, rfl, Nat.zero_le _, ⟨fun j hj => absurd hj (by omega)⟩, Drawn0.refl _⟩
        case round =>
          obtain ⟨j, rfl, hj, HJ, ⟨m, rfl⟩⟩ := hrel
          by_cases hlt2 : j < rx.body.length
          · obtain ⟨xd, e, hx⟩ := at_int HC6.out j hlt2
            cases e
            obtain ⟨yd, e, hy⟩ := at_int HD6.out j (by rw [← E6.out]; exact hlt2)
            cases e
            have hd2 : decide ((j : Int) < (rx.body.length : Int)) = true := decide_eq_true (by omega)
            have q3 : (j : Int) < (rx.body.length : Int) := by omega
            have q4 : (j : Int) < (ry.body.length : Int) := by have := E6.out; omega
            by_cases he : rd rx.body j = rd ry.body j
            · have d7 : (rd rx.body j != rd ry.body j) = false := by rw [he]; simp
              have HJ2 := Aside0.mk (show ∀ q : Nat, q < j + 1 → rd rx.body q = rd ry.body q from fun q hq => by
                rcases Nat.lt_succ_iff_lt_or_eq.1 hq with h | rfl
                · exact HJ.out q h
                · exact he)
              clear he HJ
              go_wp2_with fail
              go_quiet (fail)
              go_wp2_with fail
              go_roundw
              case rel => exact ⟨j + 1, by simp, by omega, HJ2, (by repeat (first | exact Drawn0.refl _ | apply Drawn0.step))⟩
              case measure => simp [intOf]; omega
            · have d7 : (rd rx.body j != rd ry.body j) = true := bne_iff_ne.2 he
              have HF := Aside0.mk (show decide (a = b) = false from Bool.eq_false_iff.2 (fun h => he (by rw [HX.out h])))
              clear he HJ
              go_wp2_with fail
              go_quiet (fail)
              go_wp2_with fail
              go_ret
              exact ⟨rb HF.out, by repeat (first | exact HL7.out | apply pw_below_drewN | apply below_drew1)⟩
          · obtain rfl : j = rx.body.length := by omega
            have HI2 := Aside0.mk (show ∀ q : Nat, q < k + 1 → rdOf Rul.zero a.rules q = rdOf Rul.zero b.rules q from fun q hq => by
              rcases Nat.lt_succ_iff_lt_or_eq.1 hq with h | rfl
              · exact HI.out q h
              · exact HE.out (rul_ext E4.out E5.out (ints_eq E6.out HJ.out)))
            have ZA7 := Aside0.mk (blk_drewN ZA6.out m)
            have ZB7 := Aside0.mk (blk_drewN ZB6.out m)
            have HL8 := Aside0.mk (pw_below_drewN HL7.out m)
            clear HI HJ ZA6 ZB6 HL7 HC6 HD6
            go_wp2_with fail
            go_roundw
            case rel => exact ⟨k + 1, by simp, by omega, HI2, ZA7, ZB7, HL8⟩
            case measure => simp [intOf]; omega
    · obtain rfl : k = a.rules.length := by omega
      have HF := Aside0.mk (show decide (a = b) = true from decide_eq_true (HGood.out (rules_eq G3.out HI.out)))
      go_wp2_with fail
      go_ret
      exact ⟨rb HF.out, HL.out⟩
end Go.Proofs.Ytadednkdhblpfaa.Ref
