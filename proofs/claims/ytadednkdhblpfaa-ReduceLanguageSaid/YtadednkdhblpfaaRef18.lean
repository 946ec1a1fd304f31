/- The references' small functions, walked: Ints, sameNames, Name, names. -/
import Derived.Test.YtadednkdhblpfaaNamed
import Derived.Test.YtadednkdhblpfaaRow
namespace Go.Proofs.Ytadednkdhblpfaa.Ref
open Go.RowKit Go.Proofs.YtadednkdhblpfaaW.PrintWords Go.Proofs.YtadednkdhblpfaaW.PrintLast Go.Proofs.YtadednkdhblpfaaW.PrintMore Go.Proofs.Ytadednkdhblpfaa.B Go.Proofs.Ytadednkdhblpfaa.Val
set_option linter.unusedVariables false
set_option linter.unusedSimpArgs false

theorem eq_of_take {α : Type} {a b : List α} (hl : a.length = b.length) (h : a.take a.length = b.take a.length) : a = b := by
  rw [List.take_length, hl, List.take_length] at h; exact h

set_option maxHeartbeats 1000000 in
set_option maxRecDepth 100000 in
theorem ints (A0 : Option Addr) (c0 : Nat) (a : List Int) (A1 : Option Addr) (c1 : Nat) (b : List Int) (w : World)
    (h0 : Kd.C (Kd.int .i64) w A0 a.length a) (l0 : a.length ≤ c0) (h1 : Kd.C (Kd.int .i64) w A1 b.length b) (l1 : b.length ≤ c1) :
    Calls Try.prog 13 #[.slice A0 a.length c0, .slice A1 b.length c1] w fun e w' => e = .returned (.bool (decide (a = b))) ∧ Drawn0 w w' := by
  have hm : a.length ≤ 9223372036854775807 := h0.2.1
  have H0 := Aside0.mk h0
  have H1 := Aside0.mk h1
  clear h0 h1 l0 l1
  by_cases hl : a.length = b.length
  · have d1 : ((a.length : Int) != (b.length : Int)) = false := by rw [hl]; simp
    have HL := Aside0.mk hl
    have hlt : ∀ k, k < a.length → k < b.length := fun k hk => by omega
    have HLT := Aside0.mk hlt
    clear hlt hl
    go_enter Try.func13, Try.ntmps13
    go_wp2_with fail
    go_loopw [5] (fun i wr => ∃ k : Nat, i = .int .i64 k ∧ k ≤ a.length ∧ Aside0 (a.take k = b.take k) ∧ Drawn0 w wr) (fun i _ => a.length - (intOf i).toNat)
    case atStart => exact ⟨0, rfl, Nat.zero_le _, ⟨by simp⟩, Drawn0.refl _⟩
    case round =>
      obtain ⟨k, rfl, hk, HI, ⟨m, rfl⟩⟩ := hrel
      by_cases hlt : k < a.length
      · have hltb := HLT.out k hlt
        obtain ⟨ad, e, hx⟩ := at_int H0.out k hlt
        cases e
        obtain ⟨ad1, e, hx1⟩ := at_int H1.out k hltb
        cases e
        have q1 : (k : Int) < (a.length : Int) := by omega
        have q2 : (k : Int) < (b.length : Int) := by omega
        by_cases he : rd a k = rd b k
        · have HI2 := Aside0.mk (show a.take (k + 1) = b.take (k + 1) by
            rw [List.take_succ_eq_append_getElem hlt, List.take_succ_eq_append_getElem hltb, HI.out, ← rd_nat _ _ hlt, ← rd_nat _ _ hltb, he])
          have d2 : (rd a k != rd b k) = false := by rw [he]; simp
          clear he HI
          go_wp2_with fail
          go_quiet (fail)
          go_wp2_with fail
          go_roundw
          case rel => exact ⟨k + 1, by simp, by omega, HI2, (by repeat (first | exact Drawn0.refl _ | apply Drawn0.step))⟩
          case measure => simp [intOf]; omega
        · have HF := Aside0.mk (show decide (a = b) = false from decide_eq_false (fun e => he (by rw [e])))
          have d2 : (rd a k != rd b k) = true := bne_iff_ne.2 he
          clear he HI
          go_wp2_with fail
          go_quiet (fail)
          go_wp2_with fail
          go_ret
          exact ⟨rb HF.out, (by repeat (first | exact Drawn0.refl _ | apply Drawn0.step))⟩
      · obtain rfl : k = a.length := by omega
        have HF := Aside0.mk (show decide (a = b) = true from decide_eq_true (eq_of_take HL.out HI.out))
        go_wp2_with fail
        go_ret
        exact ⟨rb HF.out, (by repeat (first | exact Drawn0.refl _ | apply Drawn0.step))⟩
  · have d1 : ((a.length : Int) != (b.length : Int)) = true := by rw [bne_iff_ne]; omega
    have HF := Aside0.mk (show decide (a = b) = false from decide_eq_false (fun e => hl (by rw [e])))
    go_enter Try.func13, Try.ntmps13
    go_wp2_with fail
    go_ret
    exact ⟨rb HF.out, drawn_refl _⟩
theorem bytes_eq {a b : ByteArray} (h : a.toList = b.toList) : a = b := by
  rw [Lib.toList_data, Lib.toList_data] at h; exact Go.WideShapes.bytes_inj h

set_option maxHeartbeats 1000000 in
set_option maxRecDepth 100000 in
theorem sameNames (A0 : Option Addr) (c0 : Nat) (a : List ByteArray) (A1 : Option Addr) (c1 : Nat) (b : List ByteArray) (w : World)
    (h0 : Kd.C Kd.string w A0 a.length a) (l0 : a.length ≤ c0) (h1 : Kd.C Kd.string w A1 b.length b) (l1 : b.length ≤ c1) :
    Calls Try.prog 25 #[.slice A0 a.length c0, .slice A1 b.length c1] w fun e w' => e = .returned (.bool (decide (a = b))) ∧ Drawn0 w w' := by
  have hm : a.length ≤ 9223372036854775807 := h0.2.1
  have H0 := Aside0.mk h0
  have H1 := Aside0.mk h1
  clear h0 h1 l0 l1
  by_cases hl : a.length = b.length
  · have d1 : ((a.length : Int) != (b.length : Int)) = false := by rw [hl]; simp
    have HL := Aside0.mk hl
    have hlt : ∀ k, k < a.length → k < b.length := fun k hk => by omega
    have HLT := Aside0.mk hlt
    clear hlt hl
    go_enter Try.func25, Try.ntmps25
    go_wp2_with fail
    go_loopw [5] (fun i wr => ∃ k : Nat, i = .int .i64 k ∧ k ≤ a.length ∧ Aside0 (a.take k = b.take k) ∧ Drawn0 w wr) (fun i _ => a.length - (intOf i).toNat)
    case atStart => exact ⟨0, rfl, Nat.zero_le _, ⟨by simp⟩, Drawn0.refl _⟩
    case round =>
      obtain ⟨k, rfl, hk, HI, ⟨m, rfl⟩⟩ := hrel
      by_cases hlt : k < a.length
      · have hltb := HLT.out k hlt
        obtain ⟨ad, e, hx⟩ := at_str H0.out k hlt
        cases e
        obtain ⟨ad1, e, hx1⟩ := at_str H1.out k hltb
        cases e
        have q1 : (k : Int) < (a.length : Int) := by omega
        have q2 : (k : Int) < (b.length : Int) := by omega
        by_cases he : rdOf ByteArray.empty a k = rdOf ByteArray.empty b k
        · have HI2 := Aside0.mk (show a.take (k + 1) = b.take (k + 1) by
            rw [List.take_succ_eq_append_getElem hlt, List.take_succ_eq_append_getElem hltb, HI.out, ← rdOf_nat _ _ _ hlt, ← rdOf_nat _ _ _ hltb, he])
          have d2 : ((rdOf ByteArray.empty a k).toList == (rdOf ByteArray.empty b k).toList) = true := by rw [he]; simp
          clear he HI
          go_wp2_with fail
          go_quiet (fail)
          go_wp2_with fail
          go_roundw
          case rel => exact ⟨k + 1, by simp, by omega, HI2, (by repeat (first | exact Drawn0.refl _ | apply Drawn0.step))⟩
          case measure => simp [intOf]; omega
        · have HF := Aside0.mk (show decide (a = b) = false from decide_eq_false (fun e => he (by rw [e])))
          have d2 : ((rdOf ByteArray.empty a k).toList == (rdOf ByteArray.empty b k).toList) = false := beq_eq_false_iff_ne.2 (fun e => he (bytes_eq e))
          clear he HI
          go_wp2_with fail
          go_quiet (fail)
          go_wp2_with fail
          go_ret
          exact ⟨rb HF.out, (by repeat (first | exact Drawn0.refl _ | apply Drawn0.step))⟩
      · obtain rfl : k = a.length := by omega
        have HF := Aside0.mk (show decide (a = b) = true from decide_eq_true (eq_of_take HL.out HI.out))
        go_wp2_with fail
        go_ret
        exact ⟨rb HF.out, (by repeat (first | exact Drawn0.refl _ | apply Drawn0.step))⟩
  · have d1 : ((a.length : Int) != (b.length : Int)) = true := by rw [bne_iff_ne]; omega
    have HF := Aside0.mk (show decide (a = b) = false from decide_eq_false (fun e => hl (by rw [e])))
    go_enter Try.func25, Try.ntmps25
    go_wp2_with fail
    go_ret
    exact ⟨rb HF.out, drawn_refl _⟩

theorem isL_true {c : Int} (h : isL c = true) : (97 ≤ c ∧ c ≤ 122) ∨ (65 ≤ c ∧ c ≤ 90) := by
  unfold isL at h; simpa using h
theorem isL_false {c : Int} (h : isL c = false) : c < 65 ∨ (91 ≤ c ∧ c ≤ 96) ∨ 122 < c := by
  unfold isL at h
  simp only [Bool.or_eq_false_iff, decide_eq_false_iff_not] at h
  omega
theorem isN_false {c : Int} (h : isN c = false) : c < 46 ∨ c = 47 ∨ (58 ≤ c ∧ c ≤ 63) ∨ (91 ≤ c ∧ c ≤ 94) ∨ c = 96 ∨ 122 < c := by
  unfold isN isL at h
  simp only [Bool.or_eq_false_iff, decide_eq_false_iff_not] at h
  omega
theorem isN_true {c : Int} (h : isN c = true) (hl : isL c = false) : c = 46 ∨ (48 ≤ c ∧ c ≤ 57) ∨ c = 64 ∨ c = 95 := by
  unfold isN at h; rw [hl] at h
  simp only [Bool.or_eq_true, decide_eq_true_eq, Bool.false_eq_true, false_or] at h
  omega

set_option maxHeartbeats 2000000 in
set_option maxRecDepth 100000 in
theorem name (s : ByteArray) (w : World) :
    Calls Try.prog 36 #[.string s] w fun e w' => e = .returned (.bool (nameOk s)) ∧ w = w' := by
  by_cases h0 : 1 ≤ s.size
  · by_cases h48 : s.size ≤ 48
    · have d1 : decide ((s.size : Int) < 1) = false := decide_eq_false (by omega)
      have d2 : decide (48 < (s.size : Int)) = false := decide_eq_false (by omega)
      go_enter Try.func36, Try.ntmps36
      go_wp2_with fail
      go_loop [3] (fun i => ∃ k : Nat, i = .int .i64 k ∧ k ≤ s.size ∧ Aside0 (k = 0 ∨ (isL (bt s 0) = true ∧ nameOk s = allN s k))) (fun i => s.size - (intOf i).toNat)
      case atStart => exact ⟨0, rfl, Nat.zero_le _, ⟨.inl rfl⟩⟩
      case round =>
        obtain ⟨k, rfl, hk, HA⟩ := hrel
        by_cases hlt : k < s.size
        · have q1 : (k : Int) < (s.size : Int) := by omega
          have hbt := bt_range s k
          have HS := Aside0.mk (allN_step s k hlt)
          have hb : ((s[k]'hlt).toNat : Int) = bt s k := bt_at s k _
          generalize hc : bt s k = c at *
          have HC := Aside0.mk hc
          clear hc
          cases hL : isL c with
          | true =>
            have HA2 := Aside0.mk (show k + 1 = 0 ∨ (isL (bt s 0) = true ∧ nameOk s = allN s (k + 1)) from .inr (by
              rcases HA.out with rfl | ⟨h1, h2⟩
              · have e : bt s 0 = c := HC.out
                refine ⟨by rw [e]; exact hL, ?_⟩
                rw [nameOk_all s h0 h48 (by rw [e]; exact hL), HS.out]; unfold isN; rw [hL]; simp
              · refine ⟨h1, ?_⟩
                rw [h2, HS.out]; unfold isN; rw [hL]; simp))
            rcases isL_true hL with hr | hr
            all_goals
              clear hL HA
              try (have e0 : decide (97 ≤ c) = true := decide_eq_true (by omega))
              try (have e0 : decide (97 ≤ c) = false := decide_eq_false (by omega))
              try (have e1 : decide (c ≤ 122) = true := decide_eq_true (by omega))
              try (have e1 : decide (c ≤ 122) = false := decide_eq_false (by omega))
              try (have e2 : decide (65 ≤ c) = true := decide_eq_true (by omega))
              try (have e2 : decide (65 ≤ c) = false := decide_eq_false (by omega))
              try (have e3 : decide (c ≤ 90) = true := decide_eq_true (by omega))
              try (have e3 : decide (c ≤ 90) = false := decide_eq_false (by omega))
              try (have e4 : decide (48 ≤ c) = true := decide_eq_true (by omega))
              try (have e4 : decide (48 ≤ c) = false := decide_eq_false (by omega))
              try (have e5 : decide (c ≤ 57) = true := decide_eq_true (by omega))
              try (have e5 : decide (c ≤ 57) = false := decide_eq_false (by omega))
              try (have g0 : (c == 95) = true := beq_iff_eq.2 (by omega))
              try (have g0 : (c == 95) = false := beq_eq_false_iff_ne.2 (by omega))
              try (have g1 : (c == 46) = true := beq_iff_eq.2 (by omega))
              try (have g1 : (c == 46) = false := beq_eq_false_iff_ne.2 (by omega))
              try (have g2 : (c == 64) = true := beq_iff_eq.2 (by omega))
              try (have g2 : (c == 64) = false := beq_eq_false_iff_ne.2 (by omega))
              go_wp2_with fail
              go_round
              case rel => exact ⟨k + 1, by simp, by omega, HA2⟩
              case measure => simp [intOf]; omega
          | false =>
            by_cases hk0 : k = 0
            · subst hk0
              have HF := Aside0.mk (show nameOk s = false by
                have e : bt s 0 = c := HC.out
                unfold nameOk; rw [e, hL]; simp)
              rcases isL_false hL with hr | hr | hr
              all_goals
                clear hL HA
                try (have e0 : decide (97 ≤ c) = true := decide_eq_true (by omega))
                try (have e0 : decide (97 ≤ c) = false := decide_eq_false (by omega))
                try (have e1 : decide (c ≤ 122) = true := decide_eq_true (by omega))
                try (have e1 : decide (c ≤ 122) = false := decide_eq_false (by omega))
                try (have e2 : decide (65 ≤ c) = true := decide_eq_true (by omega))
                try (have e2 : decide (65 ≤ c) = false := decide_eq_false (by omega))
                try (have e3 : decide (c ≤ 90) = true := decide_eq_true (by omega))
                try (have e3 : decide (c ≤ 90) = false := decide_eq_false (by omega))
                try (have e4 : decide (48 ≤ c) = true := decide_eq_true (by omega))
                try (have e4 : decide (48 ≤ c) = false := decide_eq_false (by omega))
                try (have e5 : decide (c ≤ 57) = true := decide_eq_true (by omega))
                try (have e5 : decide (c ≤ 57) = false := decide_eq_false (by omega))
                try (have g0 : (c == 95) = true := beq_iff_eq.2 (by omega))
                try (have g0 : (c == 95) = false := beq_eq_false_iff_ne.2 (by omega))
                try (have g1 : (c == 46) = true := beq_iff_eq.2 (by omega))
                try (have g1 : (c == 46) = false := beq_eq_false_iff_ne.2 (by omega))
                try (have g2 : (c == 64) = true := beq_iff_eq.2 (by omega))
                try (have g2 : (c == 64) = false := beq_eq_false_iff_ne.2 (by omega))
                go_wp2_with fail
                go_ret
                exact ⟨rb HF.out, rfl⟩
            · have hk1 : ((k : Int) == 0) = false := beq_eq_false_iff_ne.2 (by omega)
              have HA1 := Aside0.mk (show isL (bt s 0) = true ∧ nameOk s = allN s k by
                rcases HA.out with h | h
                · exact absurd h hk0
                · exact h)
              clear hk0 HA
              cases hN : isN c with
              | false =>
                have HF := Aside0.mk (show nameOk s = false by rw [HA1.out.2, HS.out, hN]; rfl)
                rcases isN_false hN with hr | hr | hr | hr | hr | hr
                all_goals
                  clear hL hN HA1
                  try (have e0 : decide (97 ≤ c) = true := decide_eq_true (by omega))
                  try (have e0 : decide (97 ≤ c) = false := decide_eq_false (by omega))
                  try (have e1 : decide (c ≤ 122) = true := decide_eq_true (by omega))
                  try (have e1 : decide (c ≤ 122) = false := decide_eq_false (by omega))
                  try (have e2 : decide (65 ≤ c) = true := decide_eq_true (by omega))
                  try (have e2 : decide (65 ≤ c) = false := decide_eq_false (by omega))
                  try (have e3 : decide (c ≤ 90) = true := decide_eq_true (by omega))
                  try (have e3 : decide (c ≤ 90) = false := decide_eq_false (by omega))
                  try (have e4 : decide (48 ≤ c) = true := decide_eq_true (by omega))
                  try (have e4 : decide (48 ≤ c) = false := decide_eq_false (by omega))
                  try (have e5 : decide (c ≤ 57) = true := decide_eq_true (by omega))
                  try (have e5 : decide (c ≤ 57) = false := decide_eq_false (by omega))
                  try (have g0 : (c == 95) = true := beq_iff_eq.2 (by omega))
                  try (have g0 : (c == 95) = false := beq_eq_false_iff_ne.2 (by omega))
                  try (have g1 : (c == 46) = true := beq_iff_eq.2 (by omega))
                  try (have g1 : (c == 46) = false := beq_eq_false_iff_ne.2 (by omega))
                  try (have g2 : (c == 64) = true := beq_iff_eq.2 (by omega))
                  try (have g2 : (c == 64) = false := beq_eq_false_iff_ne.2 (by omega))
                  go_wp2_with fail
                  go_ret
                  exact ⟨rb HF.out, rfl⟩
              | true =>
                have HA2 := Aside0.mk (show k + 1 = 0 ∨ (isL (bt s 0) = true ∧ nameOk s = allN s (k + 1)) from .inr ⟨HA1.out.1, by rw [HA1.out.2, HS.out, hN]; rfl⟩)
                rcases isN_true hN hL with hr | hr | hr | hr
                all_goals
                  clear hL hN HA1
                  try (have e0 : decide (97 ≤ c) = true := decide_eq_true (by omega))
                  try (have e0 : decide (97 ≤ c) = false := decide_eq_false (by omega))
                  try (have e1 : decide (c ≤ 122) = true := decide_eq_true (by omega))
                  try (have e1 : decide (c ≤ 122) = false := decide_eq_false (by omega))
                  try (have e2 : decide (65 ≤ c) = true := decide_eq_true (by omega))
                  try (have e2 : decide (65 ≤ c) = false := decide_eq_false (by omega))
                  try (have e3 : decide (c ≤ 90) = true := decide_eq_true (by omega))
                  try (have e3 : decide (c ≤ 90) = false := decide_eq_false (by omega))
                  try (have e4 : decide (48 ≤ c) = true := decide_eq_true (by omega))
                  try (have e4 : decide (48 ≤ c) = false := decide_eq_false (by omega))
                  try (have e5 : decide (c ≤ 57) = true := decide_eq_true (by omega))
                  try (have e5 : decide (c ≤ 57) = false := decide_eq_false (by omega))
                  try (have g0 : (c == 95) = true := beq_iff_eq.2 (by omega))
                  try (have g0 : (c == 95) = false := beq_eq_false_iff_ne.2 (by omega))
                  try (have g1 : (c == 46) = true := beq_iff_eq.2 (by omega))
                  try (have g1 : (c == 46) = false := beq_eq_false_iff_ne.2 (by omega))
                  try (have g2 : (c == 64) = true := beq_iff_eq.2 (by omega))
                  try (have g2 : (c == 64) = false := beq_eq_false_iff_ne.2 (by omega))
                  go_wp2_with fail
                  go_round
                  case rel => exact ⟨k + 1, by simp, by omega, HA2⟩
                  case measure => simp [intOf]; omega
        · obtain rfl : k = s.size := by omega
          have HF := Aside0.mk (show nameOk s = true by
            rcases HA.out with h | h
            · omega
            · rw [h.2]; exact allN_end s)
          go_wp2_with fail
          go_ret
          exact ⟨rb HF.out, rfl⟩
    · have d1 : decide ((s.size : Int) < 1) = false := decide_eq_false (by omega)
      have d2 : decide (48 < (s.size : Int)) = true := decide_eq_true (by omega)
      have HF := Aside0.mk (show nameOk s = false by unfold nameOk; rw [decide_eq_false (by omega)]; rfl)
      go_enter Try.func36, Try.ntmps36
      go_wp2_with fail
      go_ret
      exact ⟨rb HF.out, rfl⟩
  · have d1 : decide ((s.size : Int) < 1) = true := decide_eq_true (by omega)
    have HF := Aside0.mk (show nameOk s = false by unfold nameOk; rw [decide_eq_false (by omega)]; rfl)
    go_enter Try.func36, Try.ntmps36
    go_wp2_with fail
    go_ret
    exact ⟨rb HF.out, rfl⟩
end Go.Proofs.Ytadednkdhblpfaa.Ref
