/- emendateref19.table, walked. -/
import Derived.Test.YtadednkdhblpfaaTable
namespace Go.Proofs.Ytadednkdhblpfaa.Tb
open Go.RowKit Go.Proofs.YtadednkdhblpfaaW.PrintWords Go.Proofs.YtadednkdhblpfaaW.PrintLast Go.Proofs.YtadednkdhblpfaaW.PrintMore Go.Proofs.Ytadednkdhblpfaa.B Go.Proofs.Ytadednkdhblpfaa.Val Go.Proofs.Ytadednkdhblpfaa.Ana Go.Proofs.Ytadednkdhblpfaa.Red
set_option linter.unusedVariables false
set_option linter.unusedSimpArgs false

theorem below_alloc' {b : Nat} {w W : World} (h : Below b w W) (o : Obj) (hb : b ≤ w.heap.size := by exact Nat.le_refl _) : Below b w (W.alloc o) := h.alloc (Nat.le_trans hb h.size) o
theorem blk_at {w : World} {cs : Array Value} {t n : Nat} (h : n = w.heap.size) : (w.alloc (.cells cs t)).heap[n]? = some (.cells cs t (0, 0)) := by subst h; exact blk_new _ _

set_option maxHeartbeats 2000000 in
set_option maxRecDepth 100000 in
theorem table (n L : Nat) (w : World) (hn : n ≤ 100000) (hL : L ≤ 100000) :
    Calls Try.prog 27 #[.int .i64 n, .int .i64 L] w fun e w' => e = .returned (.slice (some ⟨w.heap.size, 0, none⟩) n n) ∧ Tab w' w.heap.size n L (fun _ _ _ => false) ∧ Below w.heap.size w w' := by
  have hmo := print_make_of (P := Try.prog) 38 37 (.slice none 0 0) 24 Try.underlying38 info_bss rfl (by omega) n (by omega)
  have hmm : ∀ W : World, (Instr.makeSlice 37 (.int .i64 ((L : Int) + 1)) (.int .i64 ((L : Int) + 1))).run Try.prog W = .ok (.slice (some ⟨W.heap.size, 0, none⟩) (L + 1) (L + 1)) (W.alloc (.cells (madeCells #[.slice none 0 0] (L + 1)) 36)) := by
    have h := print_make_of (P := Try.prog) 37 36 (.slice none 0 0) 24 Try.underlying37 info_bs rfl (by omega) (L + 1) (by omega)
    rwa [show (((L + 1 : Nat)) : Int) = (L : Int) + 1 by omega] at h
  have hmi : ∀ W : World, (Instr.makeSlice 36 (.int .i64 ((L : Int) + 1)) (.int .i64 ((L : Int) + 1))).run Try.prog W = .ok (.slice (some ⟨W.heap.size, 0, none⟩) (L + 1) (L + 1)) (W.alloc (.cells (madeCells #[.bool false] (L + 1)) 4)) := by
    have h := print_make_of (P := Try.prog) 36 4 (.bool false) 1 Try.underlying36 info_bool rfl (by omega) (L + 1) (by omega)
    rwa [show (((L + 1 : Nat)) : Int) = (L : Int) + 1 by omega] at h
  obtain ⟨W0, hW0⟩ : ∃ W0, w.alloc (.cells (madeCells #[.slice none 0 0] n) 37) = W0 := ⟨_, rfl⟩
  have HT0 := Aside0.mk (show TabP W0 w.heap.size n L 0 (fun a q => decide (a < 0)) (fun _ _ _ => false) by
    rw [← hW0, made_o n w.heap.size L]
    exact ⟨blk_new _ _, fun a ha => absurd ha (by omega), fun a q ha => absurd ha (by omega)⟩)
  have HS0 := Aside0.mk (show W0.heap.size = w.heap.size + 1 + 0 * (L + 2) by rw [← hW0]; simp)
  have HB0 := Aside0.mk (show Below w.heap.size w W0 by rw [← hW0]; exact (Below.refl _ _).alloc (Nat.le_refl _) _)
  go_enter Try.func27, Try.ntmps27
  go_wp2_with fail
  clear hW0 hmo
  go_loopw [6] (fun v6 wr => ∃ i : Nat, v6 = .int .i64 i ∧ i ≤ n ∧ Aside0 (TabP wr w.heap.size n L i (fun a q => decide (a < i)) (fun _ _ _ => false)) ∧ Aside0 (wr.heap.size = w.heap.size + 1 + i * (L + 2)) ∧ Aside0 (Below w.heap.size w wr)) (fun v6 _ => n - (intOf v6).toNat)
  case atStart => exact ⟨0, rfl, Nat.zero_le _, HT0, HS0, HB0⟩
  case round =>
    clear HT0 HS0 HB0
    obtain ⟨i, rfl, hi, HT, HS, HB⟩ := hrel
    obtain ⟨wo, rfl⟩ : ∃ wo : World, wo = wr := ⟨_, rfl⟩
    by_cases hlt : i < n
    · have hd : decide ((i : Int) < (n : Int)) = true := decide_eq_true (by omega)
      have q1 : (i : Int) < (n : Int) := by omega
      have hb := blk_lt HT.out.o
      have c0 : wo.cell? ⟨w.heap.size, i, none⟩ = some (.slice none 0 0) := (blk_cell HT.out.o i).trans (by simp [rowO, hlt])
      have f0 : wo.frozen? ⟨w.heap.size, i, none⟩ = false := blk_frozen HT.out.o i
      obtain ⟨W1, hW1⟩ : ∃ W1, (wo.alloc (.cells (madeCells #[.slice none 0 0] (L + 1)) 36)).setCell ⟨w.heap.size, i, none⟩ (.slice (some ⟨wo.heap.size, 0, none⟩) (L + 1) (L + 1)) = W1 := ⟨_, rfl⟩
      have hsz : wo.heap.size = mbk w.heap.size L i := HS.out
      have HT1 := Aside0.mk (show TabP W1 w.heap.size n L (i + 1) (fun a q => decide (a < i) || (decide (a = i) && decide (q < 0))) (fun _ _ _ => false) by
        rw [← hW1]
        have ho := blk_set (blk_alloc HT.out.o (.cells (madeCells #[.slice none 0 0] (L + 1)) 36)) i (.slice (some ⟨wo.heap.size, 0, none⟩) (L + 1) (L + 1))
        have far : ∀ {c : Nat} {o : Obj}, c ≠ w.heap.size → (wo.alloc (.cells (madeCells #[.slice none 0 0] (L + 1)) 36)).heap[c]? = some o → ((wo.alloc (.cells (madeCells #[.slice none 0 0] (L + 1)) 36)).setCell ⟨w.heap.size, i, none⟩ (.slice (some ⟨wo.heap.size, 0, none⟩) (L + 1) (L + 1))).heap[c]? = some o := fun hne h => (Below.heap_setCell _ _ _ _ hne).trans h
        refine ⟨?_, fun a ha => ?_, fun a q ha hq hD => ?_⟩
        · rw [hsz] at ho ⊢
          rw [rowO_set hlt] at ho
          exact ho
        · refine far (by unfold mbk; omega) ?_
          by_cases e : a = i
          · subst e
            rw [← hsz, ← made_m w.heap.size L a (D := fun q => decide (a < a) || (decide (a = a) && decide (q < 0))) (fun q _ => by simp)]
            exact blk_new _ _
          · have hm := blk_alloc (HT.out.m a (by omega)) (.cells (madeCells #[.slice none 0 0] (L + 1)) 36)
            have eD : rowM w.heap.size L a (fun q => decide (a < i) || (decide (a = i) && decide (q < 0))) = rowM w.heap.size L a (fun q => decide (a < i)) := by simp [e]
            rw [eD]; exact hm
        · have e : a < i := by simpa using hD
          exact far (by unfold ibk; omega) (blk_alloc (HT.out.i a q e hq (by simpa using e)) _))
      have HS1 := Aside0.mk (show W1.heap.size = w.heap.size + 1 + i * (L + 2) + 1 + 0 by rw [← hW1]; simp [World.setCell, HS.out])
      have HB1 := Aside0.mk (show Below w.heap.size w W1 by rw [← hW1]; exact (HB.out.alloc HB.out.size _).setCell (Nat.le_refl _) _)
      clear hsz HT HS HB
      go_wp2_with fail
      clear hW1 c0 f0
      go_loopw [7] (fun v7 wr => ∃ k : Nat, v7 = .int .i64 k ∧ k ≤ L + 1 ∧ Aside0 (TabP wr w.heap.size n L (i + 1) (fun a q => decide (a < i) || (decide (a = i) && decide (q < k))) (fun _ _ _ => false)) ∧ Aside0 (wr.heap.size = w.heap.size + 1 + i * (L + 2) + 1 + k) ∧ Aside0 (Below w.heap.size w wr)) (fun v7 _ => L + 1 - (intOf v7).toNat)
      case atStart => exact ⟨0, rfl, Nat.zero_le _, HT1, HS1, HB1⟩
      case round =>
        clear HT1 HS1 HB1 hb
        obtain ⟨k, rfl, hk, HT, HS, HB⟩ := hrel
        obtain ⟨wp, rfl⟩ : ∃ wp : World, wp = wr := ⟨_, rfl⟩
        by_cases hlt2 : k ≤ L
        · have hd2 : decide ((k : Int) ≤ (L : Int)) = true := decide_eq_true (by omega)
          have q2 : (k : Int) ≤ (L : Int) := by omega
          have q3 : (k : Int) < (L : Int) + 1 := by omega
          have hb1 := blk_lt HT.out.o
          have hb2 := blk_lt (HT.out.m i (by omega))
          have hsz : wp.heap.size = ibk w.heap.size L i k := HS.out
          have c1 : wp.cell? ⟨w.heap.size, i, none⟩ = some (.slice (some ⟨mbk w.heap.size L i, 0, none⟩) (L + 1) (L + 1)) := (blk_cell HT.out.o i).trans (rowO_get hlt (by omega))
          have c2 : wp.cell? ⟨mbk w.heap.size L i, k, none⟩ = some (.slice none 0 0) := (blk_cell (HT.out.m i (by omega)) k).trans (by simp [rowM, show k < L + 1 by omega])
          have f2 : wp.frozen? ⟨mbk w.heap.size L i, k, none⟩ = false := blk_frozen (HT.out.m i (by omega)) k
          have hmk0 := blk_set (HT.out.m i (by omega)) k (.slice (some ⟨wp.heap.size, 0, none⟩) (L + 1) (L + 1))
          have HMK := Aside0.mk hmk0
          clear hmk0
          have HT2 := Aside0.mk (show ∀ W' : World, (∀ c, c < wp.heap.size → c ≠ mbk w.heap.size L i → W'.heap[c]? = wp.heap[c]?) → W'.heap[mbk w.heap.size L i]? = some (.cells ((rowM w.heap.size L i (fun q => decide (i < i) || (decide (i = i) && decide (q < k)))).setIfInBounds k (.slice (some ⟨wp.heap.size, 0, none⟩) (L + 1) (L + 1))) 36 (0, 0)) → W'.heap[wp.heap.size]? = some (.cells (madeCells #[.bool false] (L + 1)) 4 (0, 0)) → TabP W' w.heap.size n L (i + 1) (fun a q => decide (a < i) || (decide (a = i) && decide (q < k + 1))) (fun _ _ _ => false) from by
            intro W' hold hm hnew
            have far : ∀ {c : Nat} {o : Obj}, c ≠ mbk w.heap.size L i → wp.heap[c]? = some o → W'.heap[c]? = some o := fun hne h => (hold _ (blk_lt h) hne).trans h
            refine ⟨far (by unfold mbk; omega) HT.out.o, fun a ha => ?_, fun a q ha hq hD => ?_⟩
            · by_cases e : a = i
              · subst e
                rw [hsz] at hm
                rwa [rowM_set (D' := fun q => decide (a < a) || (decide (a = a) && decide (q < k + 1))) hlt2 (fun r => by
                  by_cases h1 : r = k
                  · subst h1; simp
                  · simp [h1]; omega)] at hm
              · have h1 := HT.out.m a ha
                have eD : rowM w.heap.size L a (fun q => decide (a < i) || (decide (a = i) && decide (q < k + 1))) = rowM w.heap.size L a (fun q => decide (a < i) || (decide (a = i) && decide (q < k))) := by simp [e]
                rw [eD]
                exact far (fun h => e (mbk_inj h)) h1
            · by_cases e : a = i ∧ q = k
              · obtain ⟨rfl, rfl⟩ := e
                rw [← hsz, hnew, made_i]
              · have h1 := HT.out.i a q ha hq (by
                  simp only [Bool.or_eq_true, Bool.and_eq_true, decide_eq_true_eq] at hD ⊢
                  omega)
                exact far (ibk_mbk hq) h1)
          have HS2 := Aside0.mk (show wp.heap.size + 1 = w.heap.size + 1 + i * (L + 2) + 1 + (k + 1) by rw [HS.out]; omega)
          clear hsz HS HT
          go_upto_region 9 with fail
          go_region
          all_goals
            go_wp2_with fail
            go_roundw
            case rel =>
              have hsz2 : (wp.setCell ⟨mbk w.heap.size L i, k, none⟩ (.slice (some ⟨wp.heap.size, 0, none⟩) (L + 1) (L + 1))).heap.size = wp.heap.size := by simp [World.setCell]
              refine ⟨k + 1, by simp, by omega, ⟨HT2.out _ (fun c hc hne => ?_) ?_ ?_⟩, ⟨?_⟩, ⟨?_⟩⟩
              · exact (Below.heap_alloc _ _ _ (by rw [hsz2]; exact hc)).trans (Below.heap_setCell wp _ _ c hne)
              · exact (Below.heap_alloc _ _ _ (by rw [hsz2]; exact hb2)).trans HMK.out
              · exact blk_at hsz2.symm
              · simp [World.setCell]; have := HS2.out; omega
              · exact below_drew1 (below_alloc' (HB.out.setCell (show w.heap.size ≤ mbk w.heap.size L i by unfold mbk; omega) _) _)
            case measure => simp [intOf]; omega
        · obtain rfl : k = L + 1 := by omega
          have hd2 : decide ((((L + 1 : Nat)) : Int) ≤ (L : Int)) = false := decide_eq_false (by omega)
          have HT3 := Aside0.mk (show TabP wp w.heap.size n L (i + 1) (fun a q => decide (a < i + 1)) (fun _ _ _ => false) from ⟨HT.out.o, fun a ha => by
            have h1 := HT.out.m a ha
            have eD : rowM w.heap.size L a (fun q => decide (a < i + 1)) = rowM w.heap.size L a (fun q => decide (a < i) || (decide (a = i) && decide (q < L + 1))) := by
              unfold rowM
              congr 1
              apply List.map_congr_left
              intro q hq
              have : q < L + 1 := by simpa using hq
              have e : decide (a < i + 1) = (decide (a < i) || (decide (a = i) && decide (q < L + 1))) := by
                rw [Bool.eq_iff_iff]; simp; omega
              rw [e]
            rw [eD]; exact h1, fun a q ha hq hD => HT.out.i a q ha hq (by simp; omega)⟩)
          have HS3 := Aside0.mk (show wp.heap.size = w.heap.size + 1 + (i + 1) * (L + 2) by rw [HS.out, Nat.add_mul]; omega)
          clear HT HS
          go_wp2_with fail
          go_roundw
          case rel => exact ⟨i + 1, by simp, by omega, HT3, HS3, HB⟩
          case measure => simp [intOf]; omega
    · obtain rfl : i = n := by omega
      have HTE := Aside0.mk (show Tab wo w.heap.size i L (fun _ _ _ => false) from ⟨HT.out.o, fun a ha => by
        have h1 := HT.out.m a ha
        simpa [ha] using h1, fun a q ha hq hD => HT.out.i a q ha hq (by simpa using ha)⟩)
      clear HT HS
      go_wp2_with fail
      go_ret
      exact ⟨rfl, HTE.out, HB.out⟩
end Go.Proofs.Ytadednkdhblpfaa.Tb
