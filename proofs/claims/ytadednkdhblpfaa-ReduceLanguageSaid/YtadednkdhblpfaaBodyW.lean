/- emendateref19.body, walked. -/
import Derived.Test.YtadednkdhblpfaaTableW
import Derived.Test.YtadednkdhblpfaaDerive
namespace Go.Proofs.Ytadednkdhblpfaa.Tb
open Go.RowKit Go.Proofs.YtadednkdhblpfaaW.PrintWords Go.Proofs.YtadednkdhblpfaaW.PrintLast Go.Proofs.YtadednkdhblpfaaW.PrintMore Go.Proofs.Ytadednkdhblpfaa.B Go.Proofs.Ytadednkdhblpfaa.Val Go.Proofs.Ytadednkdhblpfaa.Ana Go.Proofs.Ytadednkdhblpfaa.Red Go.Proofs.Ytadednkdhblpfaa.Law
set_option linter.unusedVariables false
set_option linter.unusedSimpArgs false

theorem info_intS : ∃ i, Try.prog.info? 3 = some i ∧ i.size = 1 := by
  have h := info_int
  cases hi : Try.prog.info? 3 with
  | none => rw [hi] at h; cases h
  | some i => rw [hi] at h; simp at h; exact ⟨i, rfl, h.2.1⟩
/-- l[1:] of a row of int -/
theorem cut1 (A : Option Addr) (n c : Nat) (xs : List Int) (hn : 1 ≤ n) : ∃ A' : Option Addr, (∀ W : World, (Instr.slice 28 (.slice A n c) (some (.int .i64 1)) none none).run Try.prog W = .ok (.slice A' (n - 1) (c - 1)) W) ∧
    ∀ w : World, n ≤ c → Kd.C (Kd.int .i64) w A n xs → Kd.C (Kd.int .i64) w A' (n - 1) (xs.drop 1) := by
  refine ⟨if c = 1 then A else A.map (·.add 1), fun W => ?_, fun w hc h => ?_⟩
  · obtain ⟨i, hi, hsz⟩ := info_intS
    have ht := Try.underlying28
    have hel : Program.elem Try.prog 28 = 3 := by simp [Program.elem, ht]
    have hu : Try.prog.underlying 28 = some (.slice (Program.elem Try.prog 28)) := by rw [hel]; exact ht
    have := run_slice_l W 28 A n c hu .i64 (1 : Int) (by decide) (by omega)
    rw [this, hel]
    simp [sizeOf, typeInfo, hi, hsz, sliced, Result.andThen]
  · have hl := h.1
    have := Kd.C_drop (m := 1) (c := c) (show Kd.C (Kd.int .i64) w A xs.length xs by rw [hl]; exact h) (by omega) (by omega)
    rw [List.length_drop, hl] at this
    exact this

set_option maxHeartbeats 2000000 in
set_option maxRecDepth 100000 in
theorem body (T : Int → Nat → Nat → Bool) (s : List Int) (As : Option Addr) (cs n B : Nat) (hn : n ≤ 100000) (hL : s.length ≤ 100000) :
    ∀ (l : List Int) (Ab : Option Addr) (cb i k : Nat) (w : World), Tab w B n s.length T → Kd.C (Kd.int .i64) w As s.length s → s.length ≤ cs → Kd.C (Kd.int .i64) w Ab l.length l → l.length ≤ cb →
      (∀ x ∈ l, x < 0 → -1 - x < n) → i ≤ k → k ≤ s.length →
      Calls Try.prog 28 #[.slice (some ⟨B, 0, none⟩) n n, .slice As s.length cs, .slice Ab l.length cb, .int .i64 i, .int .i64 k] w fun e w' => e = .returned (.bool (bodyB T s l i k)) ∧ Drawn0 w w' := by
  intro l
  induction l with
  | nil =>
    intro Ab cb i k w hT hs hcs hb hcb hx hik hk
    have HF := Aside0.mk (show bodyB T s [] i k = decide ((i : Int) = (k : Int)) by
      unfold bodyB; rw [Bool.eq_iff_iff]; simp; omega)
    clear hT hs hcs hb hcb hx
    rw [HF.out]
    by_cases e : i = k
    · subst e
      rw [decide_eq_true rfl]
      go_enter Try.func28, Try.ntmps28
      go_wp2_with fail
      go_ret
      exact ⟨rfl, Drawn0.refl _⟩
    · have d0 : ((i : Int) == (k : Int)) = false := beq_eq_false_iff_ne.2 (by omega)
      have d1 : decide ((i : Int) = (k : Int)) = false := decide_eq_false (by omega)
      rw [d1]
      clear HF d1 e
      go_enter Try.func28, Try.ntmps28
      go_wp2_with fail
      go_ret
      exact ⟨rfl, Drawn0.refl _⟩
  | cons x l ih =>
    intro Ab cb i k w hT hs hcs hb hcb hx hik hk
    have hm : l.length + 1 ≤ 9223372036854775807 := hb.2.1
    obtain ⟨ad, e, hx0⟩ := at_int hb 0 (by simp)
    cases e
    rw [show rd (x :: l) ((0 : Nat) : Int) = x from rfl, show ad.add 0 = ad from rfl] at hx0
    obtain ⟨A1, hcut, hA1⟩ := cut1 (some ad) (l.length + 1) cb (x :: l) (by omega)
    have hb1 : Kd.C (Kd.int .i64) w A1 l.length l := hA1 w hcb hb
    have hcut' : ∀ W : World, (Instr.slice 28 (.slice (some ad) (l.length + 1) cb) (some (.int .i64 1)) none none).run Try.prog W = .ok (.slice A1 l.length (cb - 1)) W := hcut
    have HT := Aside0.mk hT
    have HS := Aside0.mk hs
    have HB := Aside0.mk hb1
    have HCB := Aside0.mk (show l.length ≤ cb - 1 by simp at hcb; omega)
    have HCS := Aside0.mk hcs
    have HX := Aside0.mk hx
    have HIH := Aside0.mk (fun (i k : Nat) (m : Nat) (hik : i ≤ k) (hk : k ≤ s.length) => ih A1 (cb - 1) i k (w.drewN m) (HT.out.below (pw_below_drewN (Below.refl _ _) m)) (Kd.C_below HS.out (pw_below_drewN (Below.refl _ _) m)) HCS.out (Kd.C_below HB.out (pw_below_drewN (Below.refl _ _) m)) HCB.out (fun y hy => HX.out y (List.mem_cons_of_mem _ hy)) hik hk)
    have hx1 := hx x List.mem_cons_self
    clear hT hs hcs hb hcb hx hA1 hb1 ih hcut
    have hne : (((l.length + 1 : Nat) : Int) == 0) = false := beq_eq_false_iff_ne.2 (by omega)
    have hne2 : ((l.length : Int) + 1 == 0) = false := beq_eq_false_iff_ne.2 (by omega)
    by_cases hneg : x < 0
    · have hx2 := hx1 hneg
      have d0 : decide (0 ≤ x) = false := decide_eq_false (by omega)
      have hq : 0 ≤ -1 - x ∧ -1 - x < (n : Int) := by omega
      have wx : IntKind.i64.wrap (-1 - x) = -1 - x := Go.IntWalk.i64_in _ (by omega)
      go_enter Try.func28, Try.ntmps28
      go_wp2_with fail
      go_loopw [11] (fun v11 wr => ∃ m : Nat, v11 = .int .i64 m ∧ i ≤ m ∧ m ≤ k + 1 ∧ Aside0 (∀ q : Nat, i ≤ q → q < m → (T (-1 - x) i q && bodyB T s l q k) = false) ∧ Drawn0 w wr) (fun v11 _ => k + 1 - (intOf v11).toNat)
      case atStart => exact ⟨i, rfl, Nat.le_refl _, by omega, ⟨fun q h1 h2 => absurd h2 (by omega)⟩, Drawn0.refl _⟩
      case round =>
        obtain ⟨m, rfl, him, hmk, HI, ⟨c, rfl⟩⟩ := hrel
        by_cases hlt : m ≤ k
        · have hd : decide ((m : Int) ≤ (k : Int)) = true := decide_eq_true (by omega)
          have h4 := HT.out.at (a := (-1 - x).toNat) (q := i) (j := m) (by omega) (by omega) (by omega)
          rw [show (((-1 - x).toNat : Nat) : Int) = -1 - x by omega] at h4
          obtain ⟨t1, t2, t3, _⟩ := h4
          have q1 : (i : Int) < (s.length : Int) + 1 := by omega
          have q2 : (m : Int) < (s.length : Int) + 1 := by omega
          cases hz : T (-1 - x) i m with
          | false =>
            have HI2 := Aside0.mk (show ∀ q : Nat, i ≤ q → q < m + 1 → (T (-1 - x) i q && bodyB T s l q k) = false from fun q h1 h2 => by
              rcases Nat.lt_succ_iff_lt_or_eq.1 h2 with h | rfl
              · exact HI.out q h1 h
              · rw [hz]; rfl)
            rw [hz] at t3
            clear hz HI
            go_wp2_with fail
            go_roundw
            case rel => exact ⟨m + 1, by simp, by omega, by omega, HI2, (by repeat (first | exact Drawn0.refl _ | apply Drawn0.step))⟩
            case measure => simp [intOf]; omega
          | true =>
            rw [hz] at t3
            have HZ := Aside0.mk hz
            clear hz
            go_wp2_with fail
            refine (HIH.out m k c (by omega) hk).mono ?_
            rintro e w' ⟨rfl, ⟨m', rfl⟩⟩
            cases hb : bodyB T s l m k with
            | false =>
              have HI2 := Aside0.mk (show ∀ q : Nat, i ≤ q → q < m + 1 → (T (-1 - x) i q && bodyB T s l q k) = false from fun q h1 h2 => by
                rcases Nat.lt_succ_iff_lt_or_eq.1 h2 with h | rfl
                · exact HI.out q h1 h
                · rw [hb]; simp)
              clear hb HI
              go_wp2_with fail
              go_roundw
              case rel => exact ⟨m + 1, by simp, by omega, by omega, HI2, (by repeat (first | exact Drawn0.refl _ | apply Drawn0.step))⟩
              case measure => simp [intOf]; omega
            | true =>
              have HF := Aside0.mk (show bodyB T s (x :: l) i k = true by
                rw [bodyB, if_neg (by omega), List.any_eq_true]
                exact ⟨m, by simp; omega, by rw [HZ.out, hb, decide_eq_true him]; rfl⟩)
              clear hb HI
              go_wp2_with fail
              go_ret
              exact ⟨rb HF.out, by repeat (first | exact Drawn0.refl _ | apply Drawn0.step)⟩
        · obtain rfl : m = k + 1 := by omega
          have hd : decide ((((k + 1 : Nat)) : Int) ≤ (k : Int)) = false := decide_eq_false (by omega)
          have hd' : decide ((k : Int) + 1 ≤ (k : Int)) = false := decide_eq_false (by omega)
          have HF := Aside0.mk (show bodyB T s (x :: l) i k = false by
            rw [bodyB, if_neg (by omega), List.any_eq_false]
            intro q hq
            have hq' : q < k + 1 := by simpa using hq
            by_cases h1 : i ≤ q
            · have := HI.out q h1 hq'
              rw [Bool.and_assoc, this]; simp
            · simp [h1])
          go_wp2_with fail
          go_ret
          exact ⟨rb HF.out, by repeat (first | exact Drawn0.refl _ | apply Drawn0.step)⟩
    · have d0 : decide (0 ≤ x) = true := decide_eq_true (by omega)
      by_cases hlt : i < k
      · have d1 : decide ((i : Int) < (k : Int)) = true := decide_eq_true (by omega)
        obtain ⟨sd, e, hs0⟩ := at_int HS.out i (by omega)
        cases e
        have q1 : (i : Int) < (s.length : Int) := by omega
        by_cases he : rd s i = x
        · have HF := Aside0.mk (show bodyB T s (x :: l) i k = bodyB T s l (i + 1) k by
            rw [bodyB, if_pos (by omega), decide_eq_true hlt, decide_eq_true he]; rfl)
          rw [he] at hs0
          clear he hx1
          have HIH1 := Aside0.mk (show ∀ m : Nat, Calls Try.prog 28 #[.slice (some ⟨B, 0, none⟩) n n, .slice (some sd) s.length cs, .slice A1 l.length (cb - 1), .int .i64 ((i : Int) + 1), .int .i64 k] (w.drewN m) (fun e w' => e = .returned (.bool (bodyB T s l (i + 1) k)) ∧ ∃ m', w' = (w.drewN m).drewN m') from fun m => by
            have h := HIH.out (i + 1) k m (by omega) hk
            rw [show (((i + 1 : Nat)) : Int) = (i : Int) + 1 by omega] at h
            refine h.mono ?_
            rintro e w' ⟨rfl, ⟨m', rfl⟩⟩
            exact ⟨rfl, m', rfl⟩)
          go_enter Try.func28, Try.ntmps28
          go_wp2_with fail
          first | (go_quiet (first | (go_at_call 28; exact Calls.quiet_of (v := .bool (bodyB T s l (i + 1) k)) (HIH1.out _)) | fail)) | fail "r4 a"
          go_wp2_with fail
          go_ret
          exact ⟨rb HF.out, by repeat (first | exact Drawn0.refl _ | apply Drawn0.step)⟩
        · have HF := Aside0.mk (show bodyB T s (x :: l) i k = false by
            rw [bodyB, if_pos (by omega), decide_eq_false he]; simp)
          have d2 : (rd s (i : Int) == x) = false := beq_eq_false_iff_ne.2 he
          clear he hx1
          rw [HF.out]
          go_enter Try.func28, Try.ntmps28
          go_wp2_with fail
          first | (go_quiet (fail); go_wp2_with fail) | fail "r4 b"
          go_ret
          exact ⟨rfl, by repeat (first | exact Drawn0.refl _ | apply Drawn0.step)⟩
      · have d1 : decide ((i : Int) < (k : Int)) = false := decide_eq_false (by omega)
        have HF := Aside0.mk (show bodyB T s (x :: l) i k = false by
          rw [bodyB, if_pos (by omega), decide_eq_false hlt]; simp)
        clear hx1
        rw [HF.out]
        go_enter Try.func28, Try.ntmps28
        go_wp2_with fail
        first | (go_quiet (fail); go_wp2_with fail) | fail "r4 c"
        go_ret
        exact ⟨rfl, by repeat (first | exact Drawn0.refl _ | apply Drawn0.step)⟩
end Go.Proofs.Ytadednkdhblpfaa.Tb
