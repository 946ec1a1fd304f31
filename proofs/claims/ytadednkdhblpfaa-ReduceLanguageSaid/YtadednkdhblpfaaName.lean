/- grammar.letter and grammar.name, walked. -/
import Derived.Test.YtadednkdhblpfaaGram
import Derived.Test.YtadednkdhblpfaaShelf
import Derived.Lib.ConvBytes
namespace Go.Proofs.Ytadednkdhblpfaa.Val
open Go.RowKit Go.Proofs.YtadednkdhblpfaaW.PrintWords Go.Proofs.YtadednkdhblpfaaW.PrintLast Go.Proofs.YtadednkdhblpfaaW.PrintMore Go.Proofs.Ytadednkdhblpfaa.B
set_option linter.unusedVariables false
set_option linter.unusedSimpArgs false

/-- a letter -/
def isL (n : Int) : Bool := decide (97 ≤ n ∧ n ≤ 122) || decide (65 ≤ n ∧ n ≤ 90)
/-- a byte of a name -/
def isN (n : Int) : Bool := isL n || decide (48 ≤ n ∧ n ≤ 57) || decide (n = 95) || decide (n = 46) || decide (n = 64)
/-- a valid name -/
def nameOk (s : ByteArray) : Bool := decide (1 ≤ s.size ∧ s.size ≤ 48) && isL (bt s 0) && (List.range s.size).all (fun i => isN (bt s i))

set_option maxHeartbeats 1000000 in
theorem letter (n : Int) (w : World) :
    Calls Try.prog 42 #[.int .u8 n] w fun e w' => e = .returned (.bool (isL n)) ∧ w = w' := by
  by_cases h1 : 97 ≤ n
  · by_cases h2 : n ≤ 122
    · have HF := Aside0.mk (show isL n = true by unfold isL; rw [decide_eq_true ⟨h1, h2⟩]; rfl)
      go_enter Try.func42, Try.ntmps42
      go_wp2_with fail
      go_ret
      exact ⟨rb HF.out, rfl⟩
    · have HF := Aside0.mk (show isL n = false by unfold isL; rw [decide_eq_false (by omega), decide_eq_false (by omega)]; rfl)
      go_enter Try.func42, Try.ntmps42
      go_wp2_with fail
      go_ret
      exact ⟨rb (HF.out.trans (decide_eq_false (by omega)).symm), rfl⟩
  · by_cases h3 : 65 ≤ n
    · by_cases h4 : n ≤ 90
      · have HF := Aside0.mk (show isL n = true by unfold isL; rw [decide_eq_true (p := 65 ≤ n ∧ n ≤ 90) ⟨h3, h4⟩]; simp)
        go_enter Try.func42, Try.ntmps42
        go_wp2_with fail
        go_ret
        exact ⟨rb HF.out, rfl⟩
      · have HF := Aside0.mk (show isL n = false by unfold isL; rw [decide_eq_false (by omega), decide_eq_false (by omega)]; rfl)
        go_enter Try.func42, Try.ntmps42
        go_wp2_with fail
        go_ret
        exact ⟨rb HF.out, rfl⟩
    · have HF := Aside0.mk (show isL n = false by unfold isL; rw [decide_eq_false (by omega), decide_eq_false (by omega)]; rfl)
      go_enter Try.func42, Try.ntmps42
      go_wp2_with fail
      go_ret
      exact ⟨rb HF.out, rfl⟩

/-- the library's table size: an int, whatever its value -/
def MaxL (w : World) : Prop := ∃ m : Int, w.cell? ⟨0, 0, none⟩ = some (.int .i64 m)
theorem MaxL.below {w w1 : World} {B : Nat} (h : MaxL w) (hb : Below B w w1) (hB : 0 < B) : MaxL w1 := by
  obtain ⟨m, hm⟩ := h
  exact ⟨m, (hb.cell (p := ⟨0, 0, none⟩) hB).trans hm⟩

theorem special (n : Int) (h0 : 0 ≤ n) (h1 : n ≤ 255) : Lib.contains [95, 46, 64] (Utf8.encode n).data.toList = (decide (n = 95) || decide (n = 46) || decide (n = 64)) := by
  have h : ∀ c : Fin 256, Lib.contains [95, 46, 64] (Utf8.encode (c.val : Int)).data.toList = (decide ((c.val : Int) = 95) || decide ((c.val : Int) = 46) || decide ((c.val : Int) = 64)) := by decide +kernel
  have := h ⟨n.toNat, by omega⟩
  rwa [show (((⟨n.toNat, by omega⟩ : Fin 256).val : Nat) : Int) = n by simp; omega] at this

/-- the bytes from k on are of names -/
def allN (s : ByteArray) (k : Nat) : Bool := (List.range' k (s.size - k)).all (fun i => isN (bt s i))
theorem allN_end (s : ByteArray) : allN s s.size = true := by simp [allN]
theorem allN_step (s : ByteArray) (k : Nat) (h : k < s.size) : allN s k = (isN (bt s k) && allN s (k + 1)) := by
  unfold allN
  rw [show s.size - k = (s.size - (k + 1)) + 1 by omega, List.range'_succ]
  rfl
theorem nameOk_all (s : ByteArray) (h0 : 1 ≤ s.size) (h48 : s.size ≤ 48) (hl : isL (bt s 0) = true) : nameOk s = allN s 0 := by
  unfold nameOk allN
  rw [decide_eq_true ⟨h0, h48⟩, hl, List.range_eq_range']
  rfl

set_option maxHeartbeats 2000000 in
set_option maxRecDepth 100000 in
theorem name (s : ByteArray) (w : World) (hM : MaxL w) :
    Calls Try.prog 40 #[.string s] w fun e w' => e = .returned (.bool (nameOk s)) ∧ Below w.heap.size w w' := by
  by_cases h0 : 1 ≤ s.size
  · have hE : s.toList.isEmpty = false := by
      have := data_length s
      rw [Lib.toList_data]
      cases hs : s.data.toList with
      | nil => rw [hs] at this; simp at this; omega
      | cons a b => rfl
    have hE2 : ¬ s.toList = [] := by intro h; rw [h] at hE; simp at hE
    by_cases h48 : s.size ≤ 48
    · have hz : decide (48 < (s.size : Int)) = false := decide_eq_false (by omega)
      have hb0 : ((s[0]'(by omega)).toNat : Int) = bt s 0 := bt_at s 0 _
      have HB0 := Aside0.mk hb0
      cases hl : isL (bt s 0) with
      | true =>
        have HA := Aside0.mk (nameOk_all s h0 h48 hl)
        have HL := Aside0.mk hl
        have HR := Aside0.mk (bytes_reads w 5 s (by omega))
        have HX := Aside0.mk (bytes_below (Below.refl w.heap.size w) (Nat.le_refl _) 5 s)
        obtain ⟨mx, hmx⟩ := hM
        have HMX := Aside0.mk ((HX.out.cell (p := ⟨0, 0, none⟩) (World.block_lt_of_cell? w _ hmx)).trans hmx)
        clear hl hb0 hmx
        have kb := fun W => print_bytes (P := Try.prog) 9 35 5 Try.underlying9 Try.underlying35 Try.underlying5 s W
        go_enter Try.func40, Try.ntmps40
        go_wp2_with fail
        refine (letter _ _).mono ?_
        rintro e w' ⟨rfl, rfl⟩
        rw [HB0.out, HL.out]
        go_wp2_with fail
        generalize Lib.bytesWorld w 5 s = W at *
        clear kb hE hE2
        go_loop [21] (fun i => ∃ k : Nat, i = .int .i64 k ∧ k ≤ s.size ∧ Aside0 (nameOk s = allN s k)) (fun i => s.size - (intOf i).toNat)
        case atStart => exact ⟨0, rfl, Nat.zero_le _, HA⟩
        case round =>
          clear HA
          obtain ⟨k, rfl, hk, HA⟩ := hrel
          by_cases hlt : k < s.size
          · obtain ⟨ad, e, hx⟩ := ReadsInt.at_ HR.out (k : Int) (by omega) (by omega)
            cases e
            have hbt := bt_range s k
            rw [rd_bytesOf, add_plain, Int.toNat_natCast] at hx
            have HS := Aside0.mk (HA.out.trans (allN_step s k hlt))
            clear HA
            go_wp2_with fail
            refine (letter _ _).mono ?_
            rintro e w' ⟨rfl, rfl⟩
            cases hl : isL (bt s k) with
            | true =>
              have HS2 := Aside0.mk (show nameOk s = allN s (k + 1) by rw [HS.out]; unfold isN; rw [hl]; simp)
              clear hl HS
              go_wp2_with fail
              go_round
              case rel => exact ⟨k + 1, by simp, by omega, HS2⟩
              case measure => simp [intOf]; omega
            | false =>
              by_cases hd : 48 ≤ bt s k ∧ bt s k ≤ 57
              · have HS2 := Aside0.mk (show nameOk s = allN s (k + 1) by rw [HS.out]; unfold isN; rw [hl, decide_eq_true hd]; simp)
                have hd1 : decide (bt s k < 48) = false := decide_eq_false (by omega)
                have hd2 : decide (57 < bt s k) = false := decide_eq_false (by omega)
                clear hl HS
                go_wp2_with fail
                go_round
                case rel => exact ⟨k + 1, by simp, by omega, HS2⟩
                case measure => simp [intOf]; omega
              · have HSP := Aside0.mk (special (bt s k) hbt.1 hbt.2)
                have HT := Aside0.mk (show isN (bt s k) = Lib.contains [95, 46, 64] (Utf8.encode (bt s k)).data.toList by
                  unfold isN; rw [hl, decide_eq_false hd, HSP.out]; simp)
                have hd3 : bt s k < 48 ∨ 57 < bt s k := by omega
                clear hl hd
                have key : ∀ (Q : Ending → World → Prop), Q (.returned (.bool (isN (bt s k)))) W → Calls Try.prog 43 #[.string ⟨#[95, 46, 64]⟩, .string (Utf8.encode (bt s k))] W Q := fun Q hQ => by
                  refine (Try.strings_Contains ⟨#[95, 46, 64]⟩ (Utf8.encode (bt s k)) mx W (by decide) HMX.out).mono ?_
                  rintro e w' ⟨rfl, rfl⟩
                  rw [HT.out] at hQ
                  exact hQ
                have HK := Aside0.mk key
                clear key
                cases hn : isN (bt s k) with
                | true =>
                  have HN := Aside0.mk hn
                  have HS2 := Aside0.mk (show nameOk s = allN s (k + 1) by rw [HS.out, hn]; rfl)
                  clear hn HS
                  rcases hd3 with hd3 | hd3
                  · have hd1 : decide (bt s k < 48) = true := decide_eq_true hd3
                    go_wp2_with fail
                    refine HK.out _ ?_
                    rw [HN.out]
                    go_wp2_with fail
                    go_round
                    case rel => exact ⟨k + 1, by simp, by omega, HS2⟩
                    case measure => simp [intOf]; omega
                  · have hd1 : decide (bt s k < 48) = false := decide_eq_false (by omega)
                    have hd2 : decide (57 < bt s k) = true := decide_eq_true hd3
                    go_wp2_with fail
                    refine HK.out _ ?_
                    rw [HN.out]
                    go_wp2_with fail
                    go_round
                    case rel => exact ⟨k + 1, by simp, by omega, HS2⟩
                    case measure => simp [intOf]; omega
                | false =>
                  have HN := Aside0.mk hn
                  have HS2 := Aside0.mk (show nameOk s = false by rw [HS.out, hn]; rfl)
                  clear hn HS
                  rcases hd3 with hd3 | hd3
                  · have hd1 : decide (bt s k < 48) = true := decide_eq_true hd3
                    go_wp2_with fail
                    refine HK.out _ ?_
                    rw [HN.out]
                    go_wp2_with fail
                    go_ret
                    exact ⟨rb HS2.out, HX.out⟩
                  · have hd1 : decide (bt s k < 48) = false := decide_eq_false (by omega)
                    have hd2 : decide (57 < bt s k) = true := decide_eq_true hd3
                    go_wp2_with fail
                    refine HK.out _ ?_
                    rw [HN.out]
                    go_wp2_with fail
                    go_ret
                    exact ⟨rb HS2.out, HX.out⟩
          · obtain rfl : k = s.size := by omega
            go_wp2_with fail
            go_ret
            exact ⟨rb (HA.out.trans (allN_end s)), HX.out⟩
      | false =>
        have HA := Aside0.mk (show nameOk s = false by unfold nameOk; rw [hl]; simp)
        have HL := Aside0.mk hl
        clear hl hb0
        go_enter Try.func40, Try.ntmps40
        go_wp2_with fail
        refine (letter _ _).mono ?_
        rintro e w' ⟨rfl, rfl⟩
        rw [HB0.out, HL.out]
        go_wp2_with fail
        go_ret
        exact ⟨rb HA.out, Below.refl _ _⟩
    · have HA := Aside0.mk (show nameOk s = false by unfold nameOk; rw [decide_eq_false (by omega)]; rfl)
      have hz : decide (48 < (s.size : Int)) = true := decide_eq_true (by omega)
      go_enter Try.func40, Try.ntmps40
      go_wp2_with fail
      go_ret
      exact ⟨rb HA.out, Below.refl _ _⟩
  · have hE : s.toList = [] := by
      have := data_length s
      rw [Lib.toList_data]
      exact List.eq_nil_of_length_eq_zero (by omega)
    have hE2 : s.toList.isEmpty = true := by rw [hE]; rfl
    have HA := Aside0.mk (show nameOk s = false by unfold nameOk; rw [decide_eq_false (by omega)]; rfl)
    go_enter Try.func40, Try.ntmps40
    go_wp2_with fail
    go_ret
    exact ⟨rb HA.out, Below.refl _ _⟩
end Go.Proofs.Ytadednkdhblpfaa.Val
