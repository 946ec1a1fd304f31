/- grammar.named, walked: all names are valid and different. -/
import Derived.Test.YtadednkdhblpfaaName
import Derived.Maps.OwnSet
import Derived.Maps.OwnOps
namespace Go.Proofs.Ytadednkdhblpfaa.Val
open Go.RowKit Go.Proofs.YtadednkdhblpfaaW.PrintWords Go.Proofs.YtadednkdhblpfaaW.PrintLast Go.Proofs.YtadednkdhblpfaaW.PrintMore Go.Proofs.Ytadednkdhblpfaa.B
set_option linter.unusedVariables false
set_option linter.unusedSimpArgs false

/-- a string as a map's key -/
def sk (s : ByteArray) : Lit := .string s.data.toList
/-- the strings seen, as a map's datum -/
def seenD (l : List ByteArray) : DataW Unit := Maps.setOf (.agg []) (l.map sk)
def memB (s : ByteArray) (l : List ByteArray) : Bool := l.any (fun a => decide (a = s))
theorem memB_iff (s : ByteArray) (l : List ByteArray) : memB s l = true ↔ s ∈ l := by
  unfold memB; rw [List.any_eq_true]
  exact ⟨fun ⟨a, h, e⟩ => by rw [← of_decide_eq_true e]; exact h, fun h => ⟨s, h, decide_eq_true rfl⟩⟩
theorem has_seenD (l : List ByteArray) (s : ByteArray) : Maps.has (seenD l) (sk s) = memB s l := by
  unfold seenD memB
  rw [Maps.has_setOf _ _ _ (fun x hx => by obtain ⟨y, _, rfl⟩ := List.mem_map.1 hx; exact trivial)]
  rw [List.any_map]
  congr 1
  funext a
  simp only [Function.comp]
  unfold sk Lit.sameKey
  by_cases h : a = s
  · subst h; simp
  · rw [decide_eq_false h]
    have : ¬ a.data.toList = s.data.toList := fun e => h (Go.WideShapes.bytes_inj e)
    exact beq_eq_false_iff_ne.2 this
theorem seenD_snoc (l : List ByteArray) (s : ByteArray) : seenD (l ++ [s]) = (seenD l).put (sk s) (.agg []) := by
  unfold seenD; rw [List.map_append]; exact Maps.setOf_snoc _ _ _

/-- all names are valid and different -/
def namesOk (l : List ByteArray) : Bool := decide (l.Nodup) && l.all nameOk

theorem namesOk_bad {l p : List ByteArray} {s : ByteArray} (h : p ++ [s] <+: l) (hb : s ∈ p ∨ nameOk s = false) : namesOk l = false := by
  obtain ⟨q, rfl⟩ := h
  unfold namesOk
  rcases hb with hb | hb
  · rw [decide_eq_false]; rfl
    intro hn
    have := (List.nodup_append.1 (List.nodup_append.1 hn).1).2.2 s hb s (by simp)
    exact this rfl
  · rw [Bool.and_eq_false_iff]; right
    simp [hb]
theorem namesOk_good {l : List ByteArray} (h1 : l.Nodup) (h2 : ∀ s ∈ l, nameOk s = true) : namesOk l = true := by
  unfold namesOk; rw [decide_eq_true h1, List.all_eq_true.2 h2]; rfl
theorem nodup_snoc {p : List ByteArray} {s : ByteArray} (h : p.Nodup) (hs : s ∉ p) : (p ++ [s]).Nodup := by
  rw [List.nodup_append]; refine ⟨h, by simp, ?_⟩
  intro a ha b hb
  simp at hb; subst hb
  intro e; subst e; exact hs ha

theorem at_str {w : World} {A : Option Addr} {n : Nat} {xs : List ByteArray} (h : Kd.C Kd.string w A n xs) (k : Nat) (hk : k < n) :
    ∃ ad, A = some ad ∧ w.cell? (ad.add k) = some (.string (rdOf ByteArray.empty xs k)) := by
  obtain ⟨ad, c, e, _, hK, hc⟩ := Kd.C_get h ByteArray.empty (k : Int) (by omega) (by omega)
  have h0 := hc 0 (.string (rdOf ByteArray.empty xs k)) (by rw [hK]; rfl)
  refine ⟨ad, e, ?_⟩
  have : Kd.sz Kd.string = 1 := rfl
  rw [this, Nat.mul_one, Nat.add_zero] at h0
  exact h0

theorem lawS : Maps.Keyed Try.prog 9 := Maps.string_keyed Try.underlying9
theorem zeroU (w : World) : (zeroValue 60).run Try.prog w = .ok (.agg #[]) w := by kernel_rfl

set_option maxHeartbeats 2000000 in
set_option maxRecDepth 100000 in
theorem named (g : Gr) (w : World) (hM : MaxL w)
    (At : Option Addr) (ct : Nat) (An : Option Addr) (cn : Nat) (Ar : Option Addr) (cr : Nat) (hg : GrC w At ct An cn Ar cr g) (hl : (g.terms ++ g.nonterms).length < maxLen) :
    Calls Try.prog 32 #[.agg #[.slice At g.terms.length ct, .slice An g.nonterms.length cn, .int .i64 g.start, .slice Ar g.rules.length cr]] w
      fun e w' => e = .returned (.bool (namesOk (g.terms ++ g.nonterms))) ∧ Below w.heap.size w w' := by
  have hmm := @run_makeMap Try.prog
  have hs : ∀ s ∈ g.terms ++ g.nonterms, s.size ≤ maxLen := fun s h => (List.mem_append.1 h).elim (hg.st s) (hg.sn s)
  have HG := Aside0.mk hg
  clear hg
  go_enter Try.func32, Try.ntmps32
  go_wp2_with fail
  generalize hW0 : ((w.alloc (.cells #[.slice At g.terms.length ct, .slice An g.nonterms.length cn, .int .i64 g.start, .slice Ar g.rules.length cr] 25)).alloc (.map #[] 0)).alloc (.cells #[.slice At g.terms.length ct, .slice An g.nonterms.length cn] 22) = W0
  have HB0 := Aside0.mk (show Below w.heap.size w W0 by rw [← hW0]; exact ((((Below.refl _ _).alloc (Nat.le_refl _) _).alloc (by simp) _).alloc (by simp; omega) _))
  have HM0 := Aside0.mk (show W0.ownsMap Try.prog 9 unitElem (w.heap.size + 1) 0 (seenD []) by
    rw [← hW0]; have := World.ownsMap_made (H := Unit) (w.alloc (.cells #[.slice At g.terms.length ct, .slice An g.nonterms.length cn, .int .i64 g.start, .slice Ar g.rules.length cr] 25)) Try.prog 9 unitElem
    rw [show (w.alloc (.cells #[.slice At g.terms.length ct, .slice An g.nonterms.length cn, .int .i64 g.start, .slice Ar g.rules.length cr] 25)).heap.size = w.heap.size + 1 by simp] at this
    exact this.alloc _)
  have HS0 := Aside0.mk (show W0.heap[w.heap.size + 1 + 1]? = some (.cells #[.slice At g.terms.length ct, .slice An g.nonterms.length cn] 22 (0, 0)) by
    rw [← hW0]; have := blk_new ((w.alloc (.cells #[.slice At g.terms.length ct, .slice An g.nonterms.length cn, .int .i64 g.start, .slice Ar g.rules.length cr] 25)).alloc (.map #[] 0)) (.cells #[.slice At g.terms.length ct, .slice An g.nonterms.length cn] 22); simpa using this)
  have HZ0 := Aside0.mk (show w.heap.size + 1 + 1 < W0.heap.size from blk_lt HS0.out)
  clear hW0
  go_loopw [17] (fun i wr => ∃ (k : Nat) (seen : List ByteArray), i = .int .i64 k ∧ k ≤ 2 ∧ Aside0 (seen = ([g.terms, g.nonterms].take k).flatten) ∧ Aside0 (seen.Nodup ∧ ∀ s ∈ seen, nameOk s = true) ∧ Aside0 (wr.ownsMap Try.prog 9 unitElem (w.heap.size + 1) seen.length (seenD seen)) ∧
    Aside0 (wr.heap[w.heap.size + 1 + 1]? = some (.cells #[.slice At g.terms.length ct, .slice An g.nonterms.length cn] 22 (0, 0))) ∧ Aside0 (Below w.heap.size w wr)) (fun i _ => 2 - (intOf i).toNat)
  case atStart => exact ⟨0, [], rfl, by omega, ⟨rfl⟩, ⟨by simp, by simp⟩, HM0, HS0, HB0⟩
  case round =>
    clear HM0 HS0 HB0 HZ0
    obtain ⟨k, seen, rfl, hk, HE, HN, HMap, HSl, HB⟩ := hrel
    obtain ⟨wo, rfl⟩ : ∃ wo : World, wo = wr := ⟨_, rfl⟩
    by_cases hlt : k < 2
    · obtain ⟨A1, c1, cur, hcell, hC, hc1, hpre, hnext⟩ : ∃ (A1 : Option Addr) (c1 : Nat) (cur : List ByteArray), wo.cell? ⟨w.heap.size + 1 + 1, k, none⟩ = some (.slice A1 cur.length c1) ∧ Kd.C Kd.string w A1 cur.length cur ∧ cur.length ≤ c1 ∧ (seen ++ cur <+: g.terms ++ g.nonterms) ∧ seen ++ cur = ([g.terms, g.nonterms].take (k + 1)).flatten := by
        rcases (show k = 0 ∨ k = 1 by omega) with rfl | rfl
        · exact ⟨At, ct, g.terms, (blk_cell HSl.out 0).trans rfl, HG.out.terms, HG.out.lt, by rw [HE.out]; simp, by rw [HE.out]; simp⟩
        · exact ⟨An, cn, g.nonterms, (blk_cell HSl.out 1).trans rfl, HG.out.nonterms, HG.out.ln, by rw [HE.out]; simp, by rw [HE.out]; simp⟩
      have HC := Aside0.mk hC
      have HP := Aside0.mk hpre
      have HX := Aside0.mk hnext
      have hcm : cur.length ≤ 9223372036854775807 := hC.2.1
      clear hC hpre hnext
      have hd2 : decide ((k : Int) < 2) = true := decide_eq_true (by omega)
      go_wp2_with fail
      clear hcell
      go_loopw [23] (fun i wr => ∃ (j : Nat) (sn : List ByteArray), i = .int .i64 j ∧ j ≤ cur.length ∧ Aside0 (sn = seen ++ cur.take j) ∧ Aside0 (sn.Nodup ∧ ∀ s ∈ sn, nameOk s = true) ∧ Aside0 (wr.ownsMap Try.prog 9 unitElem (w.heap.size + 1) sn.length (seenD sn)) ∧
        Aside0 (wr.heap[w.heap.size + 1 + 1]? = some (.cells #[.slice At g.terms.length ct, .slice An g.nonterms.length cn] 22 (0, 0))) ∧ Aside0 (Below w.heap.size w wr)) (fun i _ => cur.length - (intOf i).toNat)
      case atStart => exact ⟨0, seen, rfl, by omega, ⟨by simp⟩, HN, HMap, HSl, HB⟩
      case round =>
        clear HN HMap HSl HB
        obtain ⟨j, sn, rfl, hj, HQ, HN, HMap, HSl, HB⟩ := hrel
        by_cases hjl : j < cur.length
        · obtain ⟨ad, e, hx⟩ := at_str (Kd.C_below HC.out HB.out) j hjl
          cases e
          have HK := Aside0.mk (show sn ++ [rdOf ByteArray.empty cur j] = seen ++ cur.take (j + 1) by
            rw [HQ.out, List.append_assoc, List.take_succ_eq_append_getElem hjl, rdOf_nat _ _ _ hjl])
          have HPre := Aside0.mk (show sn ++ [rdOf ByteArray.empty cur j] <+: g.terms ++ g.nonterms by
            rw [HK.out]; exact List.IsPrefix.trans ((List.prefix_append_right_inj seen).2 (List.take_prefix _ _)) HP.out)
          have hmem : rdOf ByteArray.empty cur j ∈ g.terms ++ g.nonterms := HPre.out.subset (by simp)
          have hkey := WideMaps.keyOf_string_mk (k := 9) Try.underlying9 (hs _ hmem)
          generalize hsx : rdOf ByteArray.empty cur j = sx at *
          have HSX := Aside0.mk hsx
          clear hsx hmem
          have hmm2 : MaxL wr := hM.below HB.out (by obtain ⟨m, hm⟩ := hM; exact World.block_lt_of_cell? w _ hm)
          have HMM := Aside0.mk hmm2
          clear hmm2
          cases hmb : memB sx sn with
          | true =>
            have hh : Maps.has (seenD sn) (Lit.string sx.data.toList) = true := by have := has_seenD sn sx; rw [hmb] at this; exact this
            have HBad := Aside0.mk (namesOk_bad HPre.out (.inl ((memB_iff sx sn).1 hmb)))
            clear hmb
            go_wp2_with (first | (at_lookup; refine wpList_lookup_own_unit _ rfl _ _ 58 rfl 9 60 lawS Try.underlying58 (zeroU _) (w.heap.size + 1) sn.length _ rfl HMap.out _ _ rfl hkey ?_))
            go_ret
            exact ⟨rb HBad.out, HB.out.alloc HB.out.size _⟩
          | false =>
            have hh : Maps.has (seenD sn) (Lit.string sx.data.toList) = false := by have := has_seenD sn sx; rw [hmb] at this; exact this
            have HNew := Aside0.mk (show sx ∉ sn from fun h => by rw [(memB_iff sx sn).2 h] at hmb; exact Bool.noConfusion hmb)
            clear hmb
            go_wp2_with (first | (at_lookup; refine wpList_lookup_own_unit _ rfl _ _ 58 rfl 9 60 lawS Try.underlying58 (zeroU _) (w.heap.size + 1) sn.length _ rfl HMap.out _ _ rfl hkey ?_))
            refine (name sx _ (HMM.out.below ((Below.refl wr.heap.size wr).alloc (Nat.le_refl _) _) (by obtain ⟨m, hm⟩ := HMM.out; exact World.block_lt_of_cell? wr _ hm))).mono ?_
            rintro e w1 ⟨rfl, hb1⟩
            have hbw : Below wr.heap.size wr w1 := ((Below.refl wr.heap.size wr).alloc (Nat.le_refl _) _).trans (hb1.mono (by simp))
            have HMap1 := Aside0.mk (HMap.out.kept (grown_of_below hbw none) (by simp))
            have HSl1 := Aside0.mk (blk_below HSl.out hbw)
            have HB1 := Aside0.mk (HB.out.trans (hbw.mono HB.out.size))
            clear hb1 hbw HMap HSl HB
            cases hn : nameOk sx with
            | false =>
              have HBad := Aside0.mk (namesOk_bad HPre.out (.inr hn))
              clear hn
              go_wp2_with fail
              go_ret
              exact ⟨rb HBad.out, HB1.out⟩
            | true =>
              have HN2 := Aside0.mk (show (sn ++ [sx]).Nodup ∧ ∀ s ∈ sn ++ [sx], nameOk s = true from ⟨nodup_snoc HN.out.1 HNew.out, fun s h => by
                rcases List.mem_append.1 h with h | h
                · exact HN.out.2 s h
                · simp at h; subst h; exact hn⟩)
              have hnl : sn.length < maxLen := by
                have := List.IsPrefix.length_le HPre.out
                simp at this hl ⊢; omega
              clear hn
              go_wp2_with (first | (at_mapUpdate; refine wpList_mapUpdate_own _ rfl _ _ _ 58 rfl 9 60 lawS Try.underlying58 (unitElem (H := Unit)) (w.heap.size + 1) sn.length _ rfl HMap1.out hnl _ _ _ rfl rfl hkey _ [] unitElem_mk ?_; intro w2 hown2 hgrow2))
              have HMap2 := Aside0.mk (show w2.ownsMap Try.prog 9 unitElem (w.heap.size + 1) (sn ++ [sx]).length (seenD (sn ++ [sx])) by
                rw [seenD_snoc, List.length_append]; exact hown2)
              have HSl2 := Aside0.mk (blk_grown HSl1.out hgrow2 (by simp))
              have HB2 := Aside0.mk (HB1.out.grown hgrow2 HB1.out.size (fun b hb => by cases hb; omega))
              clear hown2 hgrow2 HMap1 HSl1 HB1
              go_roundw
              case rel => exact ⟨j + 1, sn ++ [sx], by simp, by omega, HK, HN2, HMap2, HSl2, HB2⟩
              case measure => simp [intOf]; omega
        · obtain rfl : j = cur.length := by omega
          have HQ2 := Aside0.mk (show sn = ([g.terms, g.nonterms].take (k + 1)).flatten by rw [HQ.out, ← HX.out]; simp)
          clear HQ HX
          go_wp2_with fail
          go_roundw
          case rel => exact ⟨k + 1, sn, by simp, by omega, HQ2, HN, HMap, HSl, HB⟩
          case measure => simp [intOf]; omega
    · obtain rfl : k = 2 := by omega
      have HF := Aside0.mk (show namesOk (g.terms ++ g.nonterms) = true by
        have e : seen = g.terms ++ g.nonterms := by rw [HE.out]; simp
        rw [← e]; exact namesOk_good HN.out.1 HN.out.2)
      go_wp2_with fail
      go_ret
      exact ⟨rb HF.out, HB.out⟩
end Go.Proofs.Ytadednkdhblpfaa.Val
