/- analysis.Reachable, walked. -/
import Derived.Test.YtadednkdhblpfaaRed
namespace Go.Proofs.Ytadednkdhblpfaa.Ana
open Go.RowKit Go.Proofs.YtadednkdhblpfaaW.PrintWords Go.Proofs.YtadednkdhblpfaaW.PrintLast Go.Proofs.YtadednkdhblpfaaW.PrintMore Go.Proofs.Ytadednkdhblpfaa.B Go.Proofs.Ytadednkdhblpfaa.Red
set_option linter.unusedVariables false
set_option linter.unusedSimpArgs false

/-- every nonterminal counts as productive -/
def allT (g : Gr) : List Bool := List.replicate g.nonterms.length true
theorem rd_allT (g : Gr) {i : Int} (h0 : 0 ≤ i) (h1 : i < g.nonterms.length) : rdOf false (allT g) i = true := by
  simp [allT, rdOf, List.getD_eq_getElem?_getD, show i.toNat < g.nonterms.length by omega]
theorem works_allT {g : Gr} {r : Rul} (hr : RulOk g.nonterms.length r) : worksB (allT g) r.body = true := by
  unfold worksB dead
  rw [Bool.not_eq_true', List.any_eq_false]
  intro x hx
  by_cases hn : x < 0
  · have := hr.2.2 x hx hn
    rw [rd_allT g (by omega) (by omega)]; simp
  · rw [decide_eq_false hn]; simp

/-- Reachable's memory: the box of the slice, the slice's own block. -/
structure ReachMem (w : World) (bo ba : Nat) (out : List Bool) : Prop where
  o : w.heap[bo]? = some (.cells #[.slice (some ⟨ba, 0, none⟩) out.length out.length] 36 (0, 0))
  a : w.heap[ba]? = some (.cells (out.map Value.bool).toArray 4 (0, 0))
theorem ReachMem.ch {S : Nat → Prop} {w w1 : World} {bo ba : Nat} {out : List Bool} (h : ReachMem w bo ba out) (hc : Ch S w w1) (h2 : ¬ S bo) (h3 : ¬ S ba) : ReachMem w1 bo ba out :=
  ⟨hc.blk h.o h2, hc.blk h.a h3⟩
theorem ReachMem.put {w : World} {bo ba : Nat} {out : List Bool} (h : ReachMem w bo ba out) (i : Nat) (b : Bool) : ReachMem (w.setCell ⟨ba, i, none⟩ (.bool b)) bo ba (out.set i b) := by
  have n2 : bo ≠ ba := blk_ne h.o h.a (by decide)
  exact ⟨by rw [List.length_set]; exact blk_far h.o n2 _, by rw [← bools_set]; exact blk_set h.a i _⟩

theorem ch_cell {S : Nat → Prop} {w w1 : World} (h : Ch S w w1) {p : Addr} (hp : p.block < w.heap.size) (hn : ¬ S p.block) : w1.cell? p = w.cell? p := by
  unfold World.cell?; rw [h.block _ hp hn]
/-- a row of ints lies in no block of bools -/
theorem keepInt {w w1 : World} {A : Option Addr} {n ba t : Nat} {xs : List Int} {out : List Bool} (h : Kd.C (Kd.int .i64) w A n xs) (hc : Ch (· = ba) w w1) (ha : w.heap[ba]? = some (.cells (out.map Value.bool).toArray t (0, 0))) : Kd.C (Kd.int .i64) w1 A n xs := by
  refine ⟨h.1, h.2.1, fun hn => ?_⟩
  obtain ⟨ad, e, hx⟩ := h.2.2 hn
  refine ⟨ad, e, fun j p hj => ?_⟩
  obtain ⟨c, h1, h2, h3⟩ := hx j p hj
  refine ⟨c, h1, h2, fun i u hu => ?_⟩
  have hw := h3 i u hu
  rw [← hw]
  refine ch_cell hc (World.block_lt_of_cell? w _ hw) (fun hb => ?_)
  have hu' : u = .int .i64 p := by
    have : c = [.int .i64 p] := h2
    subst this
    rcases i with _ | i
    · simpa using hu.symm
    · simp at hu
  generalize ad.add (j * (Kd.int .i64).sz + i) = q at *
  subst hb
  unfold World.cell? at hw
  rw [ha, hu'] at hw
  simp at hw

def ReachInv (g : Gr) (bo ba : Nat) (w : World) (out : List Bool) : Prop := ReachMem w bo ba out ∧ UInv g (allT g) out

set_option maxHeartbeats 1000000 in
set_option maxRecDepth 100000 in
theorem reach1 (g : Gr) (hrs : ∀ r ∈ g.rules, RulOk g.nonterms.length r) (hs : 0 ≤ g.start ∧ g.start < g.nonterms.length) (hn : g.nonterms.length ≤ 140737488351232)
    (r : Rul) (hr : r ∈ g.rules) (A : Option Addr) (c : Nat) (w : World) (bo ba : Nat) (out : List Bool) (hI : ReachInv g bo ba w out)
    (hbody : Kd.C (Kd.int .i64) w A r.body.length r.body) (hc : r.body.length ≤ c) :
    Calls Try.prog 31 #[.agg #[.int .i64 r.head, .slice A r.body.length c, .int .i64 r.price], .pointer (some ⟨bo, 0, none⟩)] w
      (StepPost (ReachInv g bo ba) (· = ba) falses (RuleShut (allT g)) w out r) := by
  have hlb : r.body.length ≤ 9223372036854775807 := hbody.2.1
  obtain ⟨hM, hU⟩ := hI
  have HM := Aside0.mk hM
  have HU := Aside0.mk hU
  have HRS := Aside0.mk hrs
  have HR := Aside0.mk hr
  have HRO := Aside0.mk (hrs r hr)
  have HB := Aside0.mk hbody
  have HC := Aside0.mk hc
  clear hM hU hrs hr hbody hc
  obtain ⟨W, hW⟩ : ∃ W, w.alloc (.cells #[.int .i64 r.head, .slice A r.body.length c, .int .i64 r.price] 42) = W := ⟨_, rfl⟩
  have HZ := Aside0.mk (show W.heap[w.heap.size]? = some (.cells #[.int .i64 r.head, .slice A r.body.length c, .int .i64 r.price] 42 (0, 0)) by rw [← hW]; exact blk_new _ _)
  have HCh := Aside0.mk (show Ch (· = ba) w W by rw [← hW]; exact (Ch.refl _ _).alloc _)
  have HMW := Aside0.mk (show ReachMem W bo ba out by rw [← hW]; exact HM.out.ch ((Ch.refl (fun _ => False) w).alloc _) id id)
  have HBW := Aside0.mk (show Kd.C (Kd.int .i64) W A r.body.length r.body by rw [← hW]; exact Kd.C_alloc HB.out _)
  have hba := blk_lt HM.out.a
  have z1 : W.cell? ⟨w.heap.size, 1, none⟩ = some (.slice A r.body.length c) := (blk_cell HZ.out 1).trans rfl
  go_enter Try.func31, Try.ntmps31
  go_wp2_with fail
  clear hW z1
  go_loopw [4, 10] (fun m i wr => ∃ (mo : Bool) (k : Nat) (o : List Bool), m = .bool mo ∧ i = .int .i64 k ∧ k ≤ r.body.length ∧ Aside0 (mo = false → o = out ∧ (rdOf false out r.head = true → ∀ j : Nat, j < k → rd r.body j < 0 → rdOf false out (-1 - rd r.body j) = true)) ∧
    Aside0 (mo = true → falses o < falses out) ∧ Aside0 (UInv g (allT g) o) ∧ Aside0 (ReachMem wr bo ba o) ∧ Aside0 (Ch (· = ba) w wr) ∧ Aside0 (Ch (· = ba) W wr)) (fun _ i _ => r.body.length - (intOf i).toNat)
  case atStart => exact ⟨false, 0, out, rfl, rfl, Nat.zero_le _, ⟨fun _ => ⟨rfl, fun _ j hj => absurd hj (by omega)⟩⟩, ⟨fun h => by cases h⟩, HU, HMW, HCh, ⟨Ch.refl _ _⟩⟩
  case round =>
    obtain ⟨mo, k, o, rfl, rfl, hk, HS, HF, HI, HX, HCw, HCW⟩ := hrel
    obtain ⟨wo, rfl⟩ : ∃ wo : World, wo = wr := ⟨_, rfl⟩
    by_cases hlt : k < r.body.length
    · have hbody := keepInt HBW.out HCW.out HMW.out.a
      obtain ⟨ad, e, hx⟩ := at_int hbody k hlt
      cases e
      have hd : decide ((k : Int) < (r.body.length : Int)) = true := decide_eq_true (by omega)
      have q1 : (k : Int) < (r.body.length : Int) := by omega
      have y0 : wo.cell? ⟨w.heap.size, 0, none⟩ = some (.int .i64 r.head) := (blk_cell (HCW.out.blk HZ.out (by omega)) 0).trans rfl
      have o0 : wo.cell? ⟨bo, 0, none⟩ = some (.slice (some ⟨ba, 0, none⟩) o.length o.length) := (blk_cell HX.out.o 0).trans rfl
      have ho := HI.out.len
      have h0 := HRO.out.1
      have h1 := HRO.out.2.1
      have hcell := arr_cell HX.out.a r.head.toNat (by omega)
      rw [show ((r.head.toNat : Nat) : Int) = r.head by omega] at hcell
      have HMx := Aside0.mk (rd_mem r.body k hlt)
      clear hbody
      generalize hxe : rd r.body k = x at *
      have HXE := Aside0.mk hxe
      clear hxe
      cases hh : rdOf false o r.head with
      | false =>
        rw [hh] at hcell
        have HS2 := Aside0.mk (show mo = false → o = out ∧ (rdOf false out r.head = true → ∀ j : Nat, j < k + 1 → rd r.body j < 0 → rdOf false out (-1 - rd r.body j) = true) from fun h => ⟨(HS.out h).1, fun ht => by
          rw [(HS.out h).1] at hh; rw [hh] at ht; cases ht⟩)
        clear hh HS
        go_wp2_with fail
        go_roundw
        case rel => exact ⟨mo, k + 1, o, rfl, by simp, by omega, HS2, HF, HI, HX, HCw, HCW⟩
        case measure => simp [intOf]; omega
      | true =>
        rw [hh] at hcell
        have HH := Aside0.mk hh
        clear hh
        by_cases hneg : x < 0
        · have h2 := HRO.out.2.2 x HMx.out hneg
          have hd2 : decide (x < 0) = true := decide_eq_true hneg
          have hcell2 := arr_cell HX.out.a (-1 - x).toNat (by omega)
          rw [show (((-1 - x).toNat : Nat) : Int) = -1 - x by omega] at hcell2
          have hb2 : 0 ≤ -1 - x ∧ -1 - x < (o.length : Int) := by omega
          cases hy : rdOf false o (-1 - x) with
          | true =>
            rw [hy] at hcell2
            have HS2 := Aside0.mk (show mo = false → o = out ∧ (rdOf false out r.head = true → ∀ j : Nat, j < k + 1 → rd r.body j < 0 → rdOf false out (-1 - rd r.body j) = true) from fun h => ⟨(HS.out h).1, fun ht j hj hn' => by
              rcases Nat.lt_succ_iff_lt_or_eq.1 hj with h' | rfl
              · exact (HS.out h).2 ht j h' hn'
              · rw [HXE.out, ← (HS.out h).1]; exact hy⟩)
            clear hy HS
            go_wp2_with fail
            go_roundw
            case rel => exact ⟨mo, k + 1, o, rfl, by simp, by omega, HS2, HF, HI, HX, HCw, HCW⟩
            case measure => simp [intOf]; omega
          | false =>
            rw [hy] at hcell2
            have HF2 := Aside0.mk (show true = true → falses (o.set (-1 - x).toNat true) < falses out from fun _ => by
              have hlt' : falses (o.set (-1 - x).toNat true) < falses o := falses_set o _ (by omega) (by rw [show (((-1 - x).toNat : Nat) : Int) = -1 - x by omega]; exact hy)
              cases mo with
              | true => exact Nat.lt_trans hlt' (HF.out rfl)
              | false => rw [(HS.out rfl).1] at hlt' ⊢; exact hlt')
            have HI2 := Aside0.mk (uinv_put HI.out HRS.out hs HR.out HH.out (works_allT HRO.out) HMx.out hneg)
            have HX2 := Aside0.mk (HX.out.put (-1 - x).toNat true)
            have HCw2 := Aside0.mk (HCw.out.setCell (p := ⟨ba, (-1 - x).toNat, none⟩) (.inl rfl) (.bool true))
            have HCW2 := Aside0.mk (HCW.out.setCell (p := ⟨ba, (-1 - x).toNat, none⟩) (.inl rfl) (.bool true))
            have hfz := blk_frozen HX.out.a (-1 - x).toNat
            clear hy HS HF HI HX HCw HCW
            go_wp2_with fail
            go_roundw
            case rel => exact ⟨true, k + 1, _, rfl, by simp, by omega, ⟨fun h => by cases h⟩, HF2, HI2, HX2, HCw2, HCW2⟩
            case measure => simp [intOf]; omega
        · have hd2 : decide (x < 0) = false := decide_eq_false hneg
          have HS2 := Aside0.mk (show mo = false → o = out ∧ (rdOf false out r.head = true → ∀ j : Nat, j < k + 1 → rd r.body j < 0 → rdOf false out (-1 - rd r.body j) = true) from fun h => ⟨(HS.out h).1, fun ht j hj hn' => by
            rcases Nat.lt_succ_iff_lt_or_eq.1 hj with h' | rfl
            · exact (HS.out h).2 ht j h' hn'
            · rw [HXE.out] at hn'; exact absurd hn' hneg⟩)
          clear HS
          go_wp2_with fail
          go_roundw
          case rel => exact ⟨mo, k + 1, o, rfl, by simp, by omega, HS2, HF, HI, HX, HCw, HCW⟩
          case measure => simp [intOf]; omega
    · obtain rfl : k = r.body.length := by omega
      cases mo with
      | true =>
        have HF1 := Aside0.mk (HF.out rfl)
        clear HF HS
        go_wp2_with fail
        go_ret
        exact ⟨true, o, rfl, HCw.out, ⟨HX.out, HI.out⟩, fun _ => HF1.out, fun h => by cases h⟩
      | false =>
        obtain ⟨rfl, hsh⟩ := HS.out rfl
        have HSh := Aside0.mk hsh
        clear HF HS hsh
        go_wp2_with fail
        go_ret
        exact ⟨false, o, rfl, HCw.out, ⟨HX.out, HI.out⟩, (fun h => by cases h), fun _ => ⟨rfl, fun hh _ x hx hn => by
          obtain ⟨j, hj, rfl⟩ := List.getElem_of_mem hx
          have := HSh.out hh j hj
          rw [rd_nat _ _ hj] at this
          exact this hn⟩⟩

theorem reach_init (w : World) (o : Obj) (n s : Nat) :
    ReachMem ((((w.alloc o).alloc (.cells (((List.replicate n false).set s true).map Value.bool).toArray 4))).alloc (.cells #[.slice (some ⟨w.heap.size + 1, 0, none⟩) n n] 36))
      (w.heap.size + 1 + 1) (w.heap.size + 1) ((List.replicate n false).set s true) := by
  have a1 : ((w.alloc o).alloc (.cells (((List.replicate n false).set s true).map Value.bool).toArray 4)).heap[w.heap.size + 1]? = some (.cells (((List.replicate n false).set s true).map Value.bool).toArray 4 (0, 0)) := by
    have := blk_new (w.alloc o) (.cells (((List.replicate n false).set s true).map Value.bool).toArray 4); simpa using this
  have a2 : (((w.alloc o).alloc (.cells (((List.replicate n false).set s true).map Value.bool).toArray 4)).alloc (.cells #[.slice (some ⟨w.heap.size + 1, 0, none⟩) n n] 36)).heap[w.heap.size + 1 + 1]? = some (.cells #[.slice (some ⟨w.heap.size + 1, 0, none⟩) n n] 36 (0, 0)) := by
    have := blk_new ((w.alloc o).alloc (.cells (((List.replicate n false).set s true).map Value.bool).toArray 4)) (.cells #[.slice (some ⟨w.heap.size + 1, 0, none⟩) n n] 36); simpa using this
  exact ⟨by rw [List.length_set, List.length_replicate]; exact a2, blk_alloc a1 _⟩

def ReachPost (g : Gr) (w : World) (e : Ending) (w' : World) : Prop :=
  ∃ v out, e = .returned v ∧ UsefulOut g (allT g) out ∧ Kd.R Kd.bool 4 w' w.heap.size (fun _ => True) v out ∧ Below w.heap.size w w'

theorem uinv_init (g : Gr) (hs : 0 ≤ g.start ∧ g.start < g.nonterms.length) : UInv g (allT g) ((List.replicate g.nonterms.length false).set g.start.toNat true) := by
  have hst : ((g.start.toNat : Nat) : Int) = g.start := by omega
  refine ⟨by simp, ?_, ?_⟩
  · have := rdOf_set false (List.replicate g.nonterms.length false) g.start.toNat g.start.toNat true (by simp; omega)
    rw [if_pos rfl, hst] at this
    exact this
  · intro k hk h
    rw [rdOf_set false _ _ k true (by simp; omega)] at h
    by_cases e : g.start.toNat = k
    · have := UP.start (g := g) (pr := allT g)
      rwa [show (k : Int) = g.start by omega]
    · rw [if_neg e] at h
      simp [rdOf, List.getD_eq_getElem?_getD, hk] at h

set_option maxHeartbeats 1000000 in
set_option maxRecDepth 100000 in
theorem reachable (g : Gr) (w : World)
    (At : Option Addr) (ct : Nat) (An : Option Addr) (cn : Nat) (Ar : Option Addr) (cr : Nat) (hg : GrC w At ct An cn Ar cr g)
    (hr : ∀ r ∈ g.rules, RulOk g.nonterms.length r) (hs : 0 ≤ g.start ∧ g.start < g.nonterms.length) (hn : g.nonterms.length ≤ 140737488351232) :
    Calls Try.prog 17 #[.agg #[.slice At g.terms.length ct, .slice An g.nonterms.length cn, .int .i64 g.start, .slice Ar g.rules.length cr]] w
      (ReachPost g w) := by
  have HG := Aside0.mk hg
  have HR := Aside0.mk hr
  clear hg hr
  have hmk := print_make_of (P := Try.prog) 36 4 (.bool false) 1 Try.underlying36 info_bool rfl (by omega) g.nonterms.length (by omega)
  have hget : (madeCells #[.bool false] g.nonterms.length)[g.start.toNat]? = some (.bool false) := by
    have : g.start.toNat < g.nonterms.length := by omega
    rw [made_falses]; simp [this]
  have hcf : ∀ args W, Sem.run Try.prog (callFunc 31 args) W = .ok (.enter 31 args) W := fun _ _ => rfl
  go_enter Try.func17, Try.ntmps17
  go_wp2_with fail
  rw [made_falses, bools_set]
  have HM0 := Aside0.mk (reach_init w (.cells #[.slice At g.terms.length ct, .slice An g.nonterms.length cn, .int .i64 g.start, .slice Ar g.rules.length cr] 25) g.nonterms.length g.start.toNat)
  have HBW := Aside0.mk ((((Below.refl w.heap.size w).alloc (Nat.le_refl _) (.cells #[.slice At g.terms.length ct, .slice An g.nonterms.length cn, .int .i64 g.start, .slice Ar g.rules.length cr] 25)).alloc (by simp) (.cells (((List.replicate g.nonterms.length false).set g.start.toNat true).map Value.bool).toArray 4)).alloc (by simp; omega) (.cells #[.slice (some ⟨w.heap.size + 1, 0, none⟩) g.nonterms.length g.nonterms.length] 36))
  refine (fixpoint (ReachInv g (w.heap.size + 1 + 1) (w.heap.size + 1)) (· = w.heap.size + 1) falses (RuleShut (allT g)) g 31 _ w _ ((List.replicate g.nonterms.length false).set g.start.toNat true) At ct An cn Ar cr HG.out
    HBW.out (fun i hi => by subst hi; simp) (fun w1 w2 s h hc => ⟨h.1.ch hc id id, h.2⟩) ⟨HM0.out, uinv_init g hs⟩ ?_ hcf).mono ?_
  · intro w1 s r A c hI hmem hbody hc
    exact reach1 g HR.out hs hn r hmem A c w1 _ _ s hI hbody hc
  rintro e w' ⟨rfl, out, hch, ⟨hm, hu⟩, hd⟩
  have h5 : w'.cell? ⟨w.heap.size + 1 + 1, 0, none⟩ = some (.slice (some ⟨w.heap.size + 1, 0, none⟩) out.length out.length) := (blk_cell hm.o 0).trans rfl
  have HO := Aside0.mk (show UsefulOut g (allT g) out from ⟨hu.len, fun k hk => ⟨hu.sound k hk, useful_all hu hd⟩⟩)
  have HV := Aside0.mk (bools_own (base := w.heap.size) hm.a (by omega) (by rw [hu.len]; unfold maxLen; omega))
  have HB := Aside0.mk (hch.under HBW.out (by simp; omega) (fun i hi => by subst hi; omega))
  clear hm hu hd hch
  go_wp2_with fail
  go_ret
  exact ⟨_, out, rfl, HO.out, HV.out, HB.out⟩
end Go.Proofs.Ytadednkdhblpfaa.Ana
