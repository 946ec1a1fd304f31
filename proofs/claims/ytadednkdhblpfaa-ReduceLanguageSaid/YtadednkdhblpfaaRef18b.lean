/- emendateref18.names, walked. -/
import Derived.Test.YtadednkdhblpfaaRef18
namespace Go.Proofs.Ytadednkdhblpfaa.Ref
open Go.RowKit Go.Proofs.YtadednkdhblpfaaW.PrintWords Go.Proofs.YtadednkdhblpfaaW.PrintLast Go.Proofs.YtadednkdhblpfaaW.PrintMore Go.Proofs.Ytadednkdhblpfaa.B Go.Proofs.Ytadednkdhblpfaa.Val
set_option linter.unusedVariables false
set_option linter.unusedSimpArgs false

theorem info_strR : (Try.prog.info? 9).map (fun i => (i.zero, i.size, i.bytes)) = some (some (.string ⟨#[]⟩), 1, 16) := by kernel_rfl

/-- the first i names are valid and different -/
def NG (l : List ByteArray) (i : Nat) : Prop := (l.take i).Nodup ∧ ∀ s ∈ l.take i, nameOk s = true
theorem NG.zero (l : List ByteArray) : NG l 0 := ⟨by simp, by simp⟩
theorem NG.succ {l : List ByteArray} {i : Nat} (h : NG l i) (hi : i < l.length) (hn : nameOk (rdOf ByteArray.empty l i) = true)
    (hd : ∀ j : Nat, j < i → rdOf ByteArray.empty l j ≠ rdOf ByteArray.empty l i) : NG l (i + 1) := by
  have e : l.take (i + 1) = l.take i ++ [rdOf ByteArray.empty l i] := by rw [List.take_succ_eq_append_getElem hi, rdOf_nat _ _ _ hi]
  refine ⟨?_, ?_⟩
  · rw [e]
    refine nodup_snoc h.1 (fun hm => ?_)
    obtain ⟨j, hj, he⟩ := List.getElem_of_mem hm
    have hj2 : j < i := by simp at hj; omega
    refine hd j hj2 ?_
    rw [rdOf_nat _ _ _ (by omega), ← he, List.getElem_take]
  · rw [e]; intro s hs
    rcases List.mem_append.1 hs with hs | hs
    · exact h.2 s hs
    · simp at hs; subst hs; exact hn
theorem NG.all {l : List ByteArray} (h : NG l l.length) : namesOk l = true := by
  unfold NG at h; rw [List.take_length] at h; exact namesOk_good h.1 h.2
theorem bad_name {l : List ByteArray} {i : Nat} (hi : i < l.length) (hn : nameOk (rdOf ByteArray.empty l i) = false) : namesOk l = false := by
  unfold namesOk; rw [Bool.and_eq_false_iff]; right; rw [List.all_eq_false]; exact ⟨_, rdOf_mem _ _ i hi, by rw [hn]; simp⟩
theorem bad_pair {l : List ByteArray} {i j : Nat} (hi : i < l.length) (hj : j < i) (he : rdOf ByteArray.empty l j = rdOf ByteArray.empty l i) : namesOk l = false := by
  unfold namesOk; rw [Bool.and_eq_false_iff]; left
  rw [decide_eq_false_iff_not]
  intro h
  rw [rdOf_nat _ _ _ hi, rdOf_nat _ _ _ (by omega)] at he
  exact List.pairwise_iff_getElem.1 h j i (by omega) hi hj he

set_option maxHeartbeats 2000000 in
set_option maxRecDepth 100000 in
theorem names (A0 : Option Addr) (c0 : Nat) (a : List ByteArray) (A1 : Option Addr) (c1 : Nat) (b : List ByteArray) (w : World)
    (h0 : Kd.C Kd.string w A0 a.length a) (l0 : a.length ≤ c0) (h1 : Kd.C Kd.string w A1 b.length b) (l1 : b.length ≤ c1) (la : a.length ≤ 120) (lb : b.length ≤ 120) :
    Calls Try.prog 26 #[.slice A0 a.length c0, .slice A1 b.length c1] w fun e w' => e = .returned (.bool (namesOk (a ++ b))) ∧ Below w.heap.size w w' := by
  have H0 := Aside0.mk h0
  have H1 := Aside0.mk h1
  clear h0 h1 l0 l1
  obtain ⟨l, hl⟩ : ∃ l, a ++ b = l := ⟨_, rfl⟩
  have hlen : l.length = a.length + b.length := by rw [← hl, List.length_append]
  rw [hl]
  go_enter Try.func26, Try.ntmps26
  go_wp2_with (first
    | (at_builtin; refine Kd.R_append_rows Kd.string (w0 := w) w.heap.size rfl (.tmp 8) (.tmp 9) 22 9 (.string ⟨#[]⟩) 16 rfl Try.underlying22 info_strR rfl (by decide) (by omega) (.slice none 0 0) ([] : List ByteArray) a A0 a.length c0 (fun _ => True) (fun _ => False) rfl rfl (Kd.R_nil _ _ _ _ (fun _ => True)) H0.out (fun _ _ h => h) (fun _ h => h.elim) (fun _ _ => trivial) (Below.refl _ _) (Nat.le_refl _) (by simp; omega) ?_; intro v1 w1 ho1 hb1 _ _; have HB1 := Aside0.mk hb1; have HO1 := Aside0.mk ho1; rw [List.nil_append] at HO1; clear ho1 hb1)
    | (at_builtin; refine Kd.R_append_rows Kd.string (w0 := w) w.heap.size rfl (.tmp 11) (.tmp 12) 22 9 (.string ⟨#[]⟩) 16 rfl Try.underlying22 info_strR rfl (by decide) (by omega) v1 a b A1 b.length c1 (fun _ => True) (fun _ => False) rfl rfl HO1.out (Kd.C_below H1.out HB1.out) (fun _ _ h => h) (fun _ h => h.elim) (fun _ _ => trivial) HB1.out HB1.out.size (by omega) ?_; intro v2 w2 ho2 hb2 _ _; have HB2 := Aside0.mk hb2; obtain ⟨A, c, hv2, hc2, hC2⟩ := Kd.R_reads ho2; subst hv2; rw [hl] at hC2 hc2; have HC := Aside0.mk hC2; rw [hl]; clear ho2 hb2 hC2 hl))
  clear H0 H1 HO1 HB1
  go_loopw [6] (fun i wr => ∃ k : Nat, i = .int .i64 k ∧ k ≤ l.length ∧ Aside0 (NG l k) ∧ Drawn0 w2 wr) (fun i _ => l.length - (intOf i).toNat)
  case atStart => exact ⟨0, rfl, Nat.zero_le _, ⟨NG.zero l⟩, Drawn0.refl _⟩
  case round =>
    obtain ⟨k, rfl, hk, HI, ⟨m, rfl⟩⟩ := hrel
    by_cases hlt : k < l.length
    · obtain ⟨ad, e, hx⟩ := at_str HC.out k hlt
      cases e
      have hd : decide ((k : Int) < (l.length : Int)) = true := decide_eq_true (by omega)
      go_wp2_with fail
      refine (name _ _).mono ?_
      rintro e w' ⟨rfl, rfl⟩
      cases hn : nameOk (rdOf ByteArray.empty l k) with
      | false =>
        have HF := Aside0.mk (bad_name hlt hn)
        clear hn
        go_wp2_with fail
        go_ret
        exact ⟨rb HF.out, pw_below_drewN HB2.out _⟩
      | true =>
        have HN := Aside0.mk hn
        clear hn
        go_wp2_with fail
        go_loopw [7] (fun i wr => ∃ j : Nat, i = .int .i64 j ∧ j ≤ k ∧ Aside0 (∀ q : Nat, q < j → rdOf ByteArray.empty l q ≠ rdOf ByteArray.empty l k) ∧ Drawn0 w2 wr) (fun i _ => k - (intOf i).toNat)
        case atStart => exact ⟨0, rfl, Nat.zero_le _, ⟨fun q hq => absurd hq (by omega)⟩, ⟨m, rfl⟩⟩
        case round =>
          obtain ⟨j, rfl, hj, HD, ⟨m2, rfl⟩⟩ := hrel
          by_cases hlt2 : j < k
          · obtain ⟨ad1, e, hx1⟩ := at_str HC.out j (by omega)
            cases e
            have q1 : (j : Int) < (l.length : Int) := by omega
            have hd2 : decide ((j : Int) < (k : Int)) = true := decide_eq_true (by omega)
            by_cases he : rdOf ByteArray.empty l j = rdOf ByteArray.empty l k
            · have HF := Aside0.mk (bad_pair hlt hlt2 he)
              have d2 : ((rdOf ByteArray.empty l j).toList == (rdOf ByteArray.empty l k).toList) = true := by rw [he]; simp
              clear he
              go_wp2_with fail
              go_quiet (fail)
              go_wp2_with fail
              go_ret
              exact ⟨rb HF.out, by repeat (first | exact HB2.out | apply pw_below_drewN | apply below_drew1)⟩
            · have HD2 := Aside0.mk (show ∀ q : Nat, q < j + 1 → rdOf ByteArray.empty l q ≠ rdOf ByteArray.empty l k from fun q hq => by
                rcases Nat.lt_succ_iff_lt_or_eq.1 hq with h | rfl
                · exact HD.out q h
                · exact he)
              have d2 : ((rdOf ByteArray.empty l j).toList == (rdOf ByteArray.empty l k).toList) = false := beq_eq_false_iff_ne.2 (fun e => he (bytes_eq e))
              clear he HD
              go_wp2_with fail
              go_quiet (fail)
              go_wp2_with fail
              go_roundw
              case rel => exact ⟨j + 1, by simp, by omega, HD2, (by repeat (first | exact Drawn0.refl _ | apply Drawn0.step))⟩
              case measure => simp [intOf]; omega
          · obtain rfl : j = k := by omega
            have HI2 := Aside0.mk (HI.out.succ hlt HN.out HD.out)
            go_wp2_with fail
            go_roundw
            case rel => exact ⟨j + 1, by simp, by omega, HI2, ⟨m2, rfl⟩⟩
            case measure => simp [intOf]; omega
    · obtain rfl : k = l.length := by omega
      have HF := Aside0.mk HI.out.all
      go_wp2_with fail
      go_ret
      exact ⟨rb HF.out, pw_below_drewN HB2.out _⟩
end Go.Proofs.Ytadednkdhblpfaa.Ref
