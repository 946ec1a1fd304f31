/- emendatelaw22.awake, walked: the document's example holds. -/
import Derived.Test.YtadednkdhblpfaaAwake
namespace Go.Proofs.Ytadednkdhblpfaa.Law
open Go.RowKit Go.Proofs.YtadednkdhblpfaaW.PrintWords Go.Proofs.YtadednkdhblpfaaW.PrintLast Go.Proofs.YtadednkdhblpfaaW.PrintMore Go.Proofs.Ytadednkdhblpfaa.B Go.Proofs.Ytadednkdhblpfaa.Val Go.Proofs.Ytadednkdhblpfaa.Ana Go.Proofs.Ytadednkdhblpfaa.Red Go.Proofs.Ytadednkdhblpfaa.Ref
set_option linter.unusedVariables false
set_option linter.unusedSimpArgs false

/-- the example's objects, in the order in which they are made; n is the first block -/
def objsA (n : Nat) : List Obj := [
  .cells #[.string ⟨#[97]⟩, .string ⟨#[98]⟩, .string ⟨#[99]⟩, .string ⟨#[100]⟩] 9,
  .cells #[.string ⟨#[83]⟩, .string ⟨#[66]⟩, .string ⟨#[67]⟩, .string ⟨#[68]⟩] 9,
  .cells #[.int .i64 0, .int .i64 (-2)] 3, .cells #[.int .i64 (-3)] 3, .cells #[.int .i64 1] 3, .cells #[.int .i64 (-3), .int .i64 2] 3, .cells #[.int .i64 3] 3,
  .cells #[.int .i64 0, .slice (some ⟨n + 1 + 1, 0, none⟩) 2 2, .int .i64 0, .int .i64 0, .slice (some ⟨n + 1 + 1 + 1, 0, none⟩) 1 1, .int .i64 0, .int .i64 1, .slice (some ⟨n + 1 + 1 + 1 + 1, 0, none⟩) 1 1, .int .i64 7,
    .int .i64 2, .slice (some ⟨n + 1 + 1 + 1 + 1 + 1, 0, none⟩) 2 2, .int .i64 0, .int .i64 3, .slice (some ⟨n + 1 + 1 + 1 + 1 + 1 + 1, 0, none⟩) 1 1, .int .i64 0] 42]
def boxA (n : Nat) (st : Int) : Obj := .cells #[.slice (some ⟨n, 0, none⟩) 4 4, .slice (some ⟨n + 1, 0, none⟩) 4 4, .int .i64 st, .slice (some ⟨n + 1 + 1 + 1 + 1 + 1 + 1 + 1, 0, none⟩) 5 5] 25
/-- what is made between the two calls: the grammar that is wanted -/
def objsW (n : Nat) (v : Value) : List Obj := [
  .cells #[.string ⟨#[83]⟩, .string ⟨#[66]⟩] 9, .cells #[.int .i64 0, .int .i64 (-2)] 3, .cells #[.int .i64 1] 3,
  .cells #[.int .i64 0, .slice (some ⟨n + 1 + 1, 0, none⟩) 2 2, .int .i64 0, .int .i64 1, .slice (some ⟨n + 1 + 1 + 1, 0, none⟩) 1 1, .int .i64 7] 42,
  .cells #[v, .slice (some ⟨n + 1, 0, none⟩) 2 2, .int .i64 0, .slice (some ⟨n + 1 + 1 + 1 + 1, 0, none⟩) 2 2] 25]

/-- these objects lie from block n on -/
def Has (W : World) (n : Nat) (os : List Obj) : Prop := ∀ i o, os[i]? = some o → W.heap[n + i]? = some o
theorem Has.ch {T : Nat → Prop} {W W1 : World} {n : Nat} {os : List Obj} (h : Has W n os) (hc : Ch T W W1) (ht : ∀ i, i < os.length → ¬ T (n + i)) : Has W1 n os := fun i o ho =>
  hc.blk (h i o ho) (ht i (List.getElem?_eq_some_iff.1 ho).1)
theorem Has.below {W W1 : World} {n : Nat} {os : List Obj} (h : Has W n os) (hc : Below W.heap.size W W1) : Has W1 n os := h.ch (T := fun _ => False) (Ch.of_below hc) (fun _ _ h => h)
theorem Has.put (W : World) (os : List Obj) : Has (putAll W os) W.heap.size os := fun i o h => putAll_get W os i o h
theorem grA {W : World} {n : Nat} (h : Has W n (objsA n)) (st : Int) : GrC W (some ⟨n, 0, none⟩) 4 (some ⟨n + 1, 0, none⟩) 4 (some ⟨n + 1 + 1 + 1 + 1 + 1 + 1 + 1, 0, none⟩) 5 (gA st) :=
  ⟨C_strs (xs := tA) (h 0 _ rfl) (by decide), Nat.le_refl 4, C_strs (xs := nA) (h 1 _ rfl) (by decide), Nat.le_refl 4,
    rowA (h 2 _ rfl) (h 3 _ rfl) (h 4 _ rfl) (h 5 _ rfl) (h 6 _ rfl) (h 7 _ rfl), Nat.le_refl 5, sizeA, sizeN⟩
theorem grW {W : World} {n m : Nat} {v : Value} (h : Has W n (objsA n)) (k : Has W (m + 1) (objsW m v)) : GrC W (some ⟨n, 0, none⟩) 4 (some ⟨m + 1, 0, none⟩) 2 (some ⟨m + 1 + 1 + 1 + 1, 0, none⟩) 2 gW :=
  ⟨C_strs (xs := tA) (h 0 _ rfl) (by decide), Nat.le_refl 4, C_strs (xs := nW) (k 0 _ rfl) (by decide), Nat.le_refl 2,
    rowW (k 1 _ rfl) (k 2 _ rfl) (k 3 _ rfl), Nat.le_refl 2, sizeA, sizeW⟩

set_option maxHeartbeats 4000000 in
set_option maxRecDepth 100000 in
theorem awake (w : World) (hM : MaxL w) :
    Calls Try.prog 9 #[] w fun e w' => e = .returned (.bool true) ∧ Below w.heap.size w w' := by
  have HM := Aside0.mk hM
  have HML := Aside0.mk (show 0 < w.heap.size by obtain ⟨m, hm⟩ := hM; exact World.block_lt_of_cell? w _ hm)
  clear hM
  obtain ⟨W, hW⟩ : ∃ W, (putAll w (objsA w.heap.size)).alloc (boxA w.heap.size 0) = W := ⟨_, rfl⟩
  have hpb := putAll_below w (objsA w.heap.size)
  have hsz : (putAll w (objsA w.heap.size)).heap.size = w.heap.size + 1 + 1 + 1 + 1 + 1 + 1 + 1 + 1 := by simp [putAll, objsA]
  have HB := Aside0.mk (show Below w.heap.size w W by rw [← hW]; exact hpb.alloc hpb.size _)
  have HA := Aside0.mk (show Has W w.heap.size (objsA w.heap.size) by rw [← hW]; exact (Has.put w _).below (below_alloc (Below.refl _ _) _))
  have H8 := Aside0.mk (show W.heap[w.heap.size + 1 + 1 + 1 + 1 + 1 + 1 + 1 + 1]? = some (boxA w.heap.size 0) by rw [← hW, ← hsz]; exact blk_new _ _)
  have HW := Aside0.mk hW
  clear hW hpb hsz
  go_enter Try.func9, Try.ntmps9
  go_wp2_with fail
  change Calls _ _ _ ((putAll w (objsA w.heap.size)).alloc (boxA w.heap.size 0)) _
  rw [HW.out]
  refine (reduce (gA 0) W (HM.out.below HB.out HML.out) _ 4 _ 4 _ 5 (grA HA.out 0)).mono ?_
  rw [reduceA]
  rintro e w1 ⟨At, ct, An, cn, Ar, cr, Af, cf, rfl, hg1, hlf, hb1⟩
  have HR1 := Aside0.mk (show ∀ w2, Ch (fun k => k < W.heap.size) w1 w2 → GrC w2 At ct An cn Ar cr gW ∧ Kd.C (Kd.int .i64) w2 Af 2 [0, 2] from hg1)
  have HLF := Aside0.mk (show 2 ≤ cf from hlf)
  have HB1 := Aside0.mk (HB.out.trans (hb1.mono HB.out.size))
  have HA1 := Aside0.mk (HA.out.below hb1)
  have h8 := blk_below H8.out hb1
  have H81 := Aside0.mk h8
  have HS := Aside0.mk (blk_lt H8.out)
  have HS1 := Aside0.mk hb1.size
  have l8 := blk_lt h8
  have c0 : w1.cell? ⟨w.heap.size + 1 + 1 + 1 + 1 + 1 + 1 + 1 + 1, 0, none⟩ = some (.slice (some ⟨w.heap.size, 0, none⟩) 4 4) := (blk_cell h8 0).trans rfl
  clear hg1 hlf hb1 h8 HA H8
  go_upto_region 4 with fail
  obtain ⟨W2, hW2⟩ : ∃ W2, putAll (w1.alloc (.cells #[.slice At gW.terms.length ct, .slice An gW.nonterms.length cn, .int .i64 gW.start, .slice Ar gW.rules.length cr] 25)) (objsW w1.heap.size (.slice (some ⟨w.heap.size, 0, none⟩) 4 4)) = W2 := ⟨_, rfl⟩
  have hb2 : Below (w1.heap.size + 1) (w1.alloc (.cells #[.slice At gW.terms.length ct, .slice An gW.nonterms.length cn, .int .i64 gW.start, .slice Ar gW.rules.length cr] 25)) W2 := by rw [← hW2]; exact (putAll_below _ _).mono (by simp)
  have hb3 : Below w1.heap.size w1 W2 := ((Below.refl _ _).alloc (Nat.le_refl _) _).trans (hb2.mono (by simp))
  have HK := Aside0.mk (show Has W2 (w1.heap.size + 1) (objsW w1.heap.size (.slice (some ⟨w.heap.size, 0, none⟩) 4 4)) by
    rw [← hW2]
    have := Has.put (w1.alloc (.cells #[.slice At gW.terms.length ct, .slice An gW.nonterms.length cn, .int .i64 gW.start, .slice Ar gW.rules.length cr] 25)) (objsW w1.heap.size (.slice (some ⟨w.heap.size, 0, none⟩) 4 4))
    simpa using this)
  have HK0 := Aside0.mk (show W2.heap[w1.heap.size]? = some (.cells #[.slice At gW.terms.length ct, .slice An gW.nonterms.length cn, .int .i64 gW.start, .slice Ar gW.rules.length cr] 25 (0, 0)) from
    blk_below (blk_new w1 _) (hb2.mono (by simp)))
  have HA2 := Aside0.mk (HA1.out.below hb3)
  have HC2 := Aside0.mk (Ch.of_below (S := fun k => k < W.heap.size) hb3)
  have HB2 := Aside0.mk (HB1.out.trans (hb3.mono HB1.out.size))
  have HSZ := Aside0.mk hb3.size
  have h8 := blk_below H81.out hb3
  change Code.wp _ _ _ _ (putAll (w1.alloc (.cells #[.slice At gW.terms.length ct, .slice An gW.nonterms.length cn, .int .i64 gW.start, .slice Ar gW.rules.length cr] 25)) (objsW w1.heap.size (.slice (some ⟨w.heap.size, 0, none⟩) 4 4)))
  rw [hW2]
  clear hW2 hb2 hb3 c0 HA1 HB1 H81 l8
  have H8 := Aside0.mk h8
  have c2 : W2.cell? ⟨w.heap.size + 1 + 1 + 1 + 1 + 1 + 1 + 1 + 1, 2, none⟩ = some (.int .i64 0) := (blk_cell h8 2).trans rfl
  have f2 := blk_frozen h8 2
  clear h8
  go_upto_region 5 with fail
  obtain ⟨W3, hW3⟩ : ∃ W3, W2.setCell ⟨w.heap.size + 1 + 1 + 1 + 1 + 1 + 1 + 1 + 1, 2, none⟩ (.int .i64 2) = W3 := ⟨_, rfl⟩
  have hc3 : Ch (fun k => k = w.heap.size + 1 + 1 + 1 + 1 + 1 + 1 + 1 + 1) W2 W3 := by rw [← hW3]; exact (Ch.refl (fun k => k = w.heap.size + 1 + 1 + 1 + 1 + 1 + 1 + 1 + 1) W2).setCell (p := ⟨w.heap.size + 1 + 1 + 1 + 1 + 1 + 1 + 1 + 1, 2, none⟩) (.inl rfl) _
  have h8 : W3.heap[w.heap.size + 1 + 1 + 1 + 1 + 1 + 1 + 1 + 1]? = some (boxA w.heap.size 2) := by rw [← hW3]; exact blk_set H8.out 2 _
  have HA3 := Aside0.mk (HA2.out.ch hc3 (fun i hi he => by simp [objsA] at hi; omega))
  have HK3 := Aside0.mk (HK.out.ch hc3 (fun i hi he => by have := HS.out; have := HS1.out; omega))
  have HK03 := Aside0.mk (hc3.blk HK0.out (fun he => by have := HS.out; have := HS1.out; omega))
  have HC3 := Aside0.mk (HC2.out.trans hc3 (fun i _ hi => by subst hi; exact HS.out))
  have HB3 := Aside0.mk (show Below w.heap.size w W3 by rw [← hW3]; exact HB2.out.setCell (by simp; omega) _)
  rw [hW3]
  clear hW3 hc3 c2 f2 HA2 HK HK0 HC2 HB2 H8
  have c0 : W3.cell? ⟨w.heap.size + 1 + 1 + 1 + 1 + 1 + 1 + 1 + 1, 0, none⟩ = some (.slice (some ⟨w.heap.size, 0, none⟩) 4 4) := (blk_cell h8 0).trans rfl
  have c1 : W3.cell? ⟨w.heap.size + 1 + 1 + 1 + 1 + 1 + 1 + 1 + 1, 1, none⟩ = some (.slice (some ⟨w.heap.size + 1, 0, none⟩) 4 4) := (blk_cell h8 1).trans rfl
  have c2 : W3.cell? ⟨w.heap.size + 1 + 1 + 1 + 1 + 1 + 1 + 1 + 1, 2, none⟩ = some (.int .i64 2) := (blk_cell h8 2).trans rfl
  have c3 : W3.cell? ⟨w.heap.size + 1 + 1 + 1 + 1 + 1 + 1 + 1 + 1, 3, none⟩ = some (.slice (some ⟨w.heap.size + 1 + 1 + 1 + 1 + 1 + 1 + 1, 0, none⟩) 5 5) := (blk_cell h8 3).trans rfl
  clear h8
  go_wp2_with fail
  refine (reduce (gA 2) W3 (HM.out.below HB3.out HML.out) _ 4 _ 4 _ 5 (grA HA3.out 2)).mono ?_
  rw [reduceA2]
  rintro e w4 ⟨Bt, dt, Bn, dn, Br, dr, Bf, df, rfl, hg4, hlf, hb4⟩
  have HA4 := Aside0.mk (HA3.out.below hb4)
  have HK4 := Aside0.mk (HK3.out.below hb4)
  have HC4 := Aside0.mk (HC3.out.below hb4)
  have HB4 := Aside0.mk (HB3.out.trans (hb4.mono HB3.out.size))
  have h0 := blk_below HK03.out hb4
  have h5 : w4.heap[w1.heap.size + 1 + 1 + 1 + 1 + 1]? = _ := HK4.out 4 (.cells #[.slice (some ⟨w.heap.size, 0, none⟩) 4 4, .slice (some ⟨w1.heap.size + 1, 0, none⟩) 2 2, .int .i64 0, .slice (some ⟨w1.heap.size + 1 + 1 + 1 + 1, 0, none⟩) 2 2] 25) rfl
  have l0 := blk_lt h0
  have l5 := blk_lt h5
  clear hg4 hlf hb4 c0 c1 c2 c3 HA3 HK3 HC3 HB3 HK03
  have a0 : w4.cell? ⟨w1.heap.size, 0, none⟩ = some (.slice At gW.terms.length ct) := (blk_cell h0 0).trans rfl
  have a1 : w4.cell? ⟨w1.heap.size, 1, none⟩ = some (.slice An gW.nonterms.length cn) := (blk_cell h0 1).trans rfl
  have a2 : w4.cell? ⟨w1.heap.size, 2, none⟩ = some (.int .i64 gW.start) := (blk_cell h0 2).trans rfl
  have a3 : w4.cell? ⟨w1.heap.size, 3, none⟩ = some (.slice Ar gW.rules.length cr) := (blk_cell h0 3).trans rfl
  have b0 : w4.cell? ⟨w1.heap.size + 1 + 1 + 1 + 1 + 1, 0, none⟩ = some (.slice (some ⟨w.heap.size, 0, none⟩) 4 4) := (blk_cell h5 0).trans rfl
  have b1 : w4.cell? ⟨w1.heap.size + 1 + 1 + 1 + 1 + 1, 1, none⟩ = some (.slice (some ⟨w1.heap.size + 1, 0, none⟩) 2 2) := (blk_cell h5 1).trans rfl
  have b2 : w4.cell? ⟨w1.heap.size + 1 + 1 + 1 + 1 + 1, 2, none⟩ = some (.int .i64 0) := (blk_cell h5 2).trans rfl
  have b3 : w4.cell? ⟨w1.heap.size + 1 + 1 + 1 + 1 + 1, 3, none⟩ = some (.slice (some ⟨w1.heap.size + 1 + 1 + 1 + 1, 0, none⟩) 2 2) := (blk_cell h5 3).trans rfl
  clear h0 h5
  go_wp2_with fail
  refine (equal gW gW _ At ct An cn Ar cr ((HR1.out _ (HC4.out.alloc _)).1) (some ⟨w.heap.size, 0, none⟩) 4 (some ⟨w1.heap.size + 1, 0, none⟩) 2 (some ⟨w1.heap.size + 1 + 1 + 1 + 1, 0, none⟩) 2 (grW (HA4.out.below (below_alloc (Below.refl _ _) _)) (HK4.out.below (below_alloc (Below.refl _ _) _)))).mono ?_
  rintro e w5 ⟨rfl, hb5⟩
  have HF5 := Aside0.mk (HR1.out _ ((HC4.out.alloc _).below hb5)).2
  have HB5 := Aside0.mk ((HB4.out.alloc HB4.out.size _).trans (hb5.mono (by simp; have := HB4.out.size; omega)))
  rw [show decide (gW = gW) = true from decide_eq_true rfl]
  clear hb5 a0 a1 a2 a3 b0 b1 b2 b3 l0 l5 HA4 HK4 HC4 HB4
  go_wp2_with fail
  refine (ints Af cf [0, 2] (some ⟨w5.heap.size, 0, none⟩) 2 [0, 2] _ (Kd.C_alloc HF5.out _) HLF.out (C_intsB (xs := [0, 2]) (blk_new w5 _) (by decide)) (Nat.le_refl 2)).mono ?_
  rintro e w6 ⟨rfl, ⟨m6, rfl⟩⟩
  rw [show decide (([0, 2] : List Int) = [0, 2]) = true from decide_eq_true rfl]
  go_wp2_with fail
  go_ret
  exact ⟨rfl, pw_below_drewN (HB5.out.alloc HB5.out.size _) _⟩
end Go.Proofs.Ytadednkdhblpfaa.Law
