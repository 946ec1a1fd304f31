/- Package analysis, walked: all, fixpoint, heads (Productive), Reachable. -/
import Derived.Test.YtadednkdhblpfaaFind
import Derived.Test.YtadednkdhblpfaaGram
namespace Go.Proofs.Ytadednkdhblpfaa.Ana
open Go.RowKit Go.Proofs.YtadednkdhblpfaaW.PrintWords Go.Proofs.YtadednkdhblpfaaW.PrintLast Go.Proofs.YtadednkdhblpfaaW.PrintMore Go.Proofs.Ytadednkdhblpfaa.B
set_option linter.unusedVariables false
set_option linter.unusedSimpArgs false

set_option maxHeartbeats 1000000 in
set_option maxRecDepth 100000 in
theorem all_calls (A0 : Option Addr) (c0 : Nat) (l0 : List Int) (fid : Nat) (caps : Array Value) (p : Int → Bool) (w : World)
    (hr0 : Kd.C (Kd.int .i64) w A0 l0.length l0) (hc0 : l0.length ≤ c0) (hq : QuietInt w fid caps p l0)
    (hcf : ∀ args W, Sem.run Try.prog (callFunc fid args) W = .ok (.enter fid args) W) :
    Calls Try.prog 38 #[.slice A0 l0.length c0, .func (.func fid) #[] caps] w fun e w' => e = .returned (.bool (l0.all p)) ∧ Drawn0 w w' := by
  have hm : l0.length ≤ 9223372036854775807 := hr0.2.1
  go_enter Try.func38, Try.ntmps38
  go_wp2_with fail
  have HR := Aside0.mk hr0
  have HQ := Aside0.mk hq
  have HC := Aside0.mk hc0
  clear hr0 hq hc0
  go_loopw [9] (fun i wr => ∃ k : Nat, i = .int .i64 k ∧ k ≤ l0.length ∧ Aside0 (l0.all p = (l0.drop k).all p) ∧ Drawn0 w wr) (fun i _ => l0.length - (intOf i).toNat)
  case atStart => exact ⟨0, rfl, Nat.zero_le _, ⟨rfl⟩, Drawn0.refl _⟩
  case round =>
    obtain ⟨k, rfl, hk, HI, ⟨m, rfl⟩⟩ := hrel
    by_cases hlt : k < l0.length
    · obtain ⟨ad, e, hx⟩ := at_int HR.out k hlt
      cases e
      go_wp2_with fail
      refine (HQ.out m _ (rd_mem l0 k hlt)).mono ?_
      rintro e w' ⟨rfl, ⟨m', rfl⟩⟩
      have HI2 : Aside0 (l0.all p = (p (rd l0 k) && (l0.drop (k + 1)).all p)) := ⟨by rw [HI.out, drop_rd l0 k hlt]; rfl⟩
      clear HI
      cases hp : p (rd l0 k) with
      | true =>
        rw [hp] at HI2
        go_wp2_with fail
        go_roundw
        case rel => exact ⟨k + 1, by simp, by omega, ⟨by rw [HI2.out]; rfl⟩, ⟨_, rfl⟩⟩
        case measure => simp [intOf]; omega
      | false =>
        rw [hp] at HI2
        go_wp2_with fail
        go_ret
        exact ⟨by rw [HI2.out]; rfl, ⟨_, rfl⟩⟩
    · obtain rfl : k = l0.length := by omega
      go_wp2_with fail
      go_ret
      exact ⟨by rw [HI.out]; simp, ⟨m, rfl⟩⟩

/-- what heads' inner closure asks of a symbol -/
def okSym (tm : Bool) (out : List Bool) (x : Int) : Bool := (decide (x ≥ 0) && tm) || (decide (x < 0) && rdOf false out (-1 - x))

/-- heads' memory: the box of the flag, the box of the slice, the slice's own block. -/
structure HeadsMem (w : World) (bt bo ba : Nat) (tm : Bool) (out : List Bool) : Prop where
  t : w.heap[bt]? = some (.cells #[.bool tm] 4 (0, 0))
  o : w.heap[bo]? = some (.cells #[.slice (some ⟨ba, 0, none⟩) out.length out.length] 36 (0, 0))
  a : w.heap[ba]? = some (.cells (out.map Value.bool).toArray 4 (0, 0))
  ne : bt ≠ ba

theorem HeadsMem.drewN {w : World} {bt bo ba : Nat} {tm : Bool} {out : List Bool} (h : HeadsMem w bt bo ba tm out) (n : Nat) : HeadsMem (w.drewN n) bt bo ba tm out := ⟨h.t, h.o, h.a, h.ne⟩

theorem arr_cell {w : World} {ba : Nat} {out : List Bool} {t : Nat} (h : w.heap[ba]? = some (.cells (out.map Value.bool).toArray t (0, 0))) (k : Nat) (hk : k < out.length) :
    w.cell? ⟨ba, k, none⟩ = some (.bool (rdOf false out k)) := by
  rw [blk_cell h]; simp [rdOf, List.getD_eq_getElem?_getD, hk]

set_option maxHeartbeats 1000000 in
set_option maxRecDepth 100000 in
theorem heads11 (x : Int) (w : World) (bt bo ba : Nat) (tm : Bool) (out : List Bool) (hM : HeadsMem w bt bo ba tm out)
    (hx : x < 0 → -x ≤ out.length) (hn : out.length ≤ 9223372036854775807) :
    Calls Try.prog 39 #[.int .i64 x, .pointer (some ⟨bt, 0, none⟩), .pointer (some ⟨bo, 0, none⟩)] w fun e w' => e = .returned (.bool (okSym tm out x)) ∧ Drawn0 w w' := by
  have h1 : w.cell? ⟨bt, 0, none⟩ = some (.bool tm) := (blk_cell hM.t 0).trans rfl
  have h2 : w.cell? ⟨bo, 0, none⟩ = some (.slice (some ⟨ba, 0, none⟩) out.length out.length) := (blk_cell hM.o 0).trans rfl
  by_cases hneg : x < 0
  · have hk : (-1 - x).toNat < out.length := by have := hx hneg; omega
    have h3 := arr_cell hM.a (-1 - x).toNat hk
    rw [show (((-1 - x).toNat : Nat) : Int) = -1 - x by omega] at h3
    have hb : 0 ≤ -1 - x ∧ -1 - x < (out.length : Int) := by omega
    have HF := Aside0.mk (show okSym tm out x = rdOf false out (-1 - x) by
      unfold okSym; rw [decide_eq_false (show ¬ x ≥ 0 by omega), decide_eq_true hneg]; simp)
    clear hM hx
    go_enter Try.func39, Try.ntmps39
    go_wp2_with fail
    go_ret
    exact ⟨rb HF.out, drawn_refl _⟩
  · have HF := Aside0.mk (show okSym tm out x = tm by
      unfold okSym; rw [decide_eq_true (show x ≥ 0 by omega), decide_eq_false hneg]; simp)
    clear hM hx
    cases tm
    all_goals
      go_enter Try.func39, Try.ntmps39
      go_wp2_with fail
      go_ret
      exact ⟨rb HF.out, drawn_refl _⟩

/-- what heads' closure answers for a rule -/
def chg (tm : Bool) (out : List Bool) (r : Rul) : Bool := !(rdOf false out r.head) && r.body.all (okSym tm out)
/-- a rule's numbers lie in their ranges -/
def RulOk (n : Nat) (r : Rul) : Prop := 0 ≤ r.head ∧ r.head < n ∧ ∀ x ∈ r.body, x < 0 → -x ≤ n

theorem HeadsMem.ch {S : Nat → Prop} {w w1 : World} {bt bo ba : Nat} {tm : Bool} {out : List Bool} (h : HeadsMem w bt bo ba tm out) (hc : Ch S w w1) (h1 : ¬ S bt) (h2 : ¬ S bo) (h3 : ¬ S ba) : HeadsMem w1 bt bo ba tm out :=
  ⟨hc.blk h.t h1, hc.blk h.o h2, hc.blk h.a h3, h.ne⟩

def Heads1Post (w : World) (bt bo ba : Nat) (tm : Bool) (out : List Bool) (r : Rul) (e : Ending) (w' : World) : Prop :=
  e = .returned (.bool (chg tm out r)) ∧ Ch (· = ba) w w' ∧ HeadsMem w' bt bo ba tm (if chg tm out r then out.set r.head.toNat true else out)

theorem bools_set (out : List Bool) (i : Nat) (b : Bool) : (out.map Value.bool).toArray.setIfInBounds i (.bool b) = ((out.set i b).map Value.bool).toArray := by
  simp [List.setIfInBounds_toArray, List.map_set]

theorem HeadsMem.put {w : World} {bt bo ba : Nat} {tm : Bool} {out : List Bool} (h : HeadsMem w bt bo ba tm out) (i : Nat) (b : Bool) : HeadsMem (w.setCell ⟨ba, i, none⟩ (.bool b)) bt bo ba tm (out.set i b) := by
  have n2 : bo ≠ ba := blk_ne h.o h.a (by decide)
  exact ⟨blk_far h.t h.ne _, by rw [List.length_set]; exact blk_far h.o n2 _, by rw [← bools_set]; exact blk_set h.a i _, h.ne⟩

set_option maxHeartbeats 1000000 in
set_option maxRecDepth 100000 in
theorem heads1 (r : Rul) (A : Option Addr) (c : Nat) (w : World) (bt bo ba : Nat) (tm : Bool) (out : List Bool) (hM : HeadsMem w bt bo ba tm out)
    (hbody : Kd.C (Kd.int .i64) w A r.body.length r.body) (hc : r.body.length ≤ c) (hr : RulOk out.length r) (hn : out.length ≤ 9223372036854775807) :
    Calls Try.prog 37 #[.agg #[.int .i64 r.head, .slice A r.body.length c, .int .i64 r.price], .pointer (some ⟨bo, 0, none⟩), .pointer (some ⟨bt, 0, none⟩)] w
      (Heads1Post w bt bo ba tm out r) := by
  have h2 : w.cell? ⟨bo, 0, none⟩ = some (.slice (some ⟨ba, 0, none⟩) out.length out.length) := (blk_cell hM.o 0).trans rfl
  have hk : r.head.toNat < out.length := by have := hr.1; have := hr.2.1; omega
  have h3 := arr_cell hM.a r.head.toNat hk
  rw [show ((r.head.toNat : Nat) : Int) = r.head by have := hr.1; omega] at h3
  have hb : 0 ≤ r.head ∧ r.head < (out.length : Int) := ⟨hr.1, hr.2.1⟩
  have l1 := blk_lt hM.t
  have l2 := blk_lt hM.o
  have l3 := blk_lt hM.a
  have hfz := blk_frozen hM.a r.head.toNat
  have HM := Aside0.mk hM
  have HR := Aside0.mk hr
  have HB := Aside0.mk hbody
  have HC := Aside0.mk hc
  clear hM hr hbody hc
  cases hh : rdOf false out r.head with
  | true =>
    rw [hh] at h3
    have HF := Aside0.mk (show chg tm out r = false by unfold chg; rw [hh]; rfl)
    clear hh
    go_enter Try.func37, Try.ntmps37
    go_wp2_with fail
    go_ret
    exact ⟨rb HF.out, (Ch.refl _ _).alloc _, by rw [HF.out]; exact HM.out.ch ((Ch.refl (fun _ => False) w).alloc _) id id id⟩
  | false =>
    rw [hh] at h3
    have HH := Aside0.mk hh
    clear hh
    go_enter Try.func37, Try.ntmps37
    have hcf : ∀ args W, Sem.run Try.prog (callFunc 39 args) W = .ok (.enter 39 args) W := fun _ _ => rfl
    go_wp2_with fail
    refine (all_calls A c r.body 39 _ (okSym tm out) _ (Kd.C_alloc HB.out _) HC.out ?_ hcf).mono ?_
    · intro m x hx
      exact heads11 x _ bt bo ba tm out ((HM.out.ch ((Ch.refl (fun _ => False) w).alloc _) id id id).drewN m) (HR.out.2.2 x hx) hn
    rintro e w' ⟨rfl, ⟨m, rfl⟩⟩
    have HD := (HM.out.ch ((Ch.refl (fun _ => False) w).alloc (.cells #[.int .i64 r.head, .slice A r.body.length c, .int .i64 r.price] 42)) id id id).drewN m
    have HE := ((Ch.refl (· = ba) w).alloc (.cells #[.int .i64 r.head, .slice A r.body.length c, .int .i64 r.price] 42)).drewN m
    cases ha : r.body.all (okSym tm out) with
    | true =>
      have HF := Aside0.mk (show chg tm out r = true by unfold chg; rw [HH.out, ha]; rfl)
      have HD' := Aside0.mk (HD.put r.head.toNat true)
      have HE' := Aside0.mk (HE.setCell (p := ⟨ba, r.head.toNat, none⟩) (.inl rfl) (.bool true))
      clear HD HE ha
      go_wp2_with fail
      go_ret
      exact ⟨rb HF.out, HE'.out, by rw [HF.out]; exact HD'.out⟩
    | false =>
      have HF := Aside0.mk (show chg tm out r = false by unfold chg; rw [HH.out, ha]; rfl)
      have HD' := Aside0.mk HD
      have HE' := Aside0.mk HE
      clear HD HE ha
      go_wp2_with fail
      go_ret
      exact ⟨rb HF.out, HE'.out, by rw [HF.out]; exact HD'.out⟩

def StepPost {S : Type} (I : World → S → Prop) (T : Nat → Prop) (μ : S → Nat) (D : S → Rul → Prop) (w : World) (s : S) (r : Rul) (e : Ending) (w' : World) : Prop :=
  ∃ b s', e = .returned (.bool b) ∧ Ch T w w' ∧ I w' s' ∧ (b = true → μ s' < μ s) ∧ (b = false → s' = s ∧ D s r)
def FixPost {S : Type} (I : World → S → Prop) (T : Nat → Prop) (D : S → Rul → Prop) (g : Gr) (w : World) (e : Ending) (w' : World) : Prop :=
  e = .returned (.tuple #[]) ∧ ∃ s', Ch T w w' ∧ I w' s' ∧ ∀ r ∈ g.rules, D s' r

set_option maxHeartbeats 1000000 in
set_option maxRecDepth 100000 in
theorem fixpoint {S : Type} (I : World → S → Prop) (T : Nat → Prop) (μ : S → Nat) (D : S → Rul → Prop) (g : Gr) (fid : Nat) (caps : Array Value) (w0 w : World) (s0 : S)
    (At : Option Addr) (ct : Nat) (An : Option Addr) (cn : Nat) (Ar : Option Addr) (cr : Nat) (hg : GrC w0 At ct An cn Ar cr g) (hb : Below w0.heap.size w0 w)
    (hT : ∀ i, T i → w0.heap.size ≤ i ∧ i < w.heap.size)
    (hI : ∀ w1 w2 s, I w1 s → Ch (fun _ => False) w1 w2 → I w2 s) (h0 : I w s0)
    (hstep : ∀ w1 s r A c, I w1 s → r ∈ g.rules → Kd.C (Kd.int .i64) w1 A r.body.length r.body → r.body.length ≤ c →
      Calls Try.prog fid (#[.agg #[.int .i64 r.head, .slice A r.body.length c, .int .i64 r.price]] ++ caps) w1 (StepPost I T μ D w1 s r))
    (hcf : ∀ args W, Sem.run Try.prog (callFunc fid args) W = .ok (.enter fid args) W) :
    Calls Try.prog 30 #[.agg #[.slice At g.terms.length ct, .slice An g.nonterms.length cn, .int .i64 g.start, .slice Ar g.rules.length cr], .func (.func fid) #[] caps] w
      (FixPost I T D g w) := by
  have hm : g.rules.length ≤ 9223372036854775807 := hg.rules.2.1
  have HG := Aside0.mk hg
  have HB := Aside0.mk hb
  have HT := Aside0.mk hT
  have HI := Aside0.mk hI
  have H0 := Aside0.mk h0
  have HS := Aside0.mk hstep
  clear hg hb hT hI h0 hstep
  go_enter Try.func30, Try.ntmps30
  go_wp2_with fail
  have HW := Aside0.mk (show Ch T w (w.alloc (.cells #[.slice At g.terms.length ct, .slice An g.nonterms.length cn, .int .i64 g.start, .slice Ar g.rules.length cr] 25)) from (Ch.refl _ _).alloc _)
  have HI0 := Aside0.mk (HI.out w _ s0 H0.out ((Ch.refl (fun _ => False) _).alloc (.cells #[.slice At g.terms.length ct, .slice An g.nonterms.length cn, .int .i64 g.start, .slice Ar g.rules.length cr] 25)))
  have HZ := Aside0.mk (blk_new w (.cells #[.slice At g.terms.length ct, .slice An g.nonterms.length cn, .int .i64 g.start, .slice Ar g.rules.length cr] 25))
  go_step3
  go_wp2_with fail
  go_step3
  go_wp2_with fail
  go_loopg [] (μ s0 + 1) (fun kq wr => ∃ s, Aside0 (μ s < kq) ∧ Aside0 (Ch T w wr) ∧ Aside0 (I wr s) ∧ Aside0 (wr.heap[w.heap.size]? = some (.cells #[.slice At g.terms.length ct, .slice An g.nonterms.length cn, .int .i64 g.start, .slice Ar g.rules.length cr] 25 (0, 0))))
  case atStart => exact ⟨s0, ⟨by omega⟩, HW, HI0, HZ⟩
  case round =>
    obtain ⟨s, HK, HWr, HIs, HZr⟩ := hrel
    clear HW HI0 HZ
    obtain ⟨wo, rfl⟩ : ∃ wo : World, wo = wr := ⟨_, rfl⟩
    have c3 : wo.cell? ⟨w.heap.size, 3, none⟩ = some (.slice Ar g.rules.length cr) := (blk_cell HZr.out 3).trans rfl
    go_wp2_with fail
    clear c3
    go_loopg [9] (g.rules.length + 1) (fun kq i wr => ∃ k : Nat, i = .int .i64 k ∧ k ≤ g.rules.length ∧ Aside0 (g.rules.length - k < kq) ∧ Aside0 (∀ j, j < k → D s (rdOf Rul.zero g.rules j)) ∧ Aside0 (Ch T w wr) ∧ Aside0 (I wr s) ∧ Aside0 (wr.heap[w.heap.size]? = some (.cells #[.slice At g.terms.length ct, .slice An g.nonterms.length cn, .int .i64 g.start, .slice Ar g.rules.length cr] 25 (0, 0))))
    case atStart => exact ⟨0, rfl, Nat.zero_le _, ⟨by omega⟩, ⟨fun j hj => absurd hj (by omega)⟩, HWr, HIs, HZr⟩
    case round =>
      clear HWr HIs HZr
      obtain ⟨k, rfl, hk, HQ, HD, HW, HIs, HZ⟩ := hrel
      by_cases hlt : k < g.rules.length
      · have HB' := HW.out.under HB.out HB.out.size (fun i hi => (HT.out i hi).1)
        obtain ⟨ad, A1, c1, e, h1, h2, h3, hl, hc⟩ := at_rul (Kd.C_below HG.out.rules HB') k hlt
        have HC := Aside0.mk hc
        have HL := Aside0.mk hl
        clear hc hl HB'
        cases e
        go_wp2_with fail
        refine (HS.out _ s (rdOf Rul.zero g.rules k) A1 c1 (HI.out _ _ _ HIs.out ((Ch.refl _ _).alloc _)) (rdOf_mem _ _ k hlt) (Kd.C_alloc HC.out _) HL.out).mono ?_
        rintro e w' ⟨b, s', rfl, hch, hI', hlt', hfl⟩
        have HZ' := Aside0.mk (hch.blk (blk_alloc HZ.out _) (fun hx => by have := (HT.out _ hx).2; omega))
        have HW' := Aside0.mk ((HW.out.alloc _).trans hch (fun i _ hi => hi))
        have HI' := Aside0.mk hI'
        have HLT := Aside0.mk hlt'
        have HFL := Aside0.mk hfl
        clear hch hI' hlt' hfl h1 h2 h3 HC HL HW HIs HZ
        cases b with
        | true =>
          have HL1 := Aside0.mk (HLT.out rfl)
          clear HLT HFL
          go_wp2_with fail
          go_roundg (μ s)
          case measure => exact HK.out
          case rel => exact ⟨s', HL1, HW', HI', HZ'⟩
        | false =>
          obtain ⟨rfl, hd⟩ := HFL.out rfl
          have HDn := Aside0.mk hd
          clear hd HFL HLT
          go_wp2_with fail
          go_roundg (g.rules.length - k)
          case measure => exact HQ.out
          case rel => exact ⟨k + 1, by simp, by omega, ⟨by omega⟩, ⟨fun j hj => by
            rcases Nat.lt_succ_iff_lt_or_eq.1 hj with h | rfl
            · exact HD.out j h
            · exact HDn.out⟩, HW', HI', HZ'⟩
      · obtain rfl : k = g.rules.length := by omega
        go_wp2_with fail
        rw [Exit.noGoto_ret]
        go_end0
        exact ⟨rfl, s, HW.out, HIs.out, fun r hr => by
          obtain ⟨j, hj, rfl⟩ := List.getElem_of_mem hr
          have := HD.out j hj
          rwa [rdOf_nat Rul.zero g.rules j hj] at this⟩

/-- The nonterminals with a rule all of whose symbols are terminals (if tm) or such nonterminals. -/
inductive HP (rs : List Rul) (tm : Bool) : Int → Prop
  | mk (r : Rul) (hr : r ∈ rs) (h : ∀ x ∈ r.body, x < 0 → HP rs tm (-1 - x)) (ht : ∀ x ∈ r.body, x ≥ 0 → tm = true) : HP rs tm r.head

/-- What heads answers. -/
structure HeadsOut (rs : List Rul) (n : Nat) (tm : Bool) (out : List Bool) : Prop where
  len : out.length = n
  iff : ∀ k : Nat, k < n → (rdOf false out k = true ↔ HP rs tm k)

theorem okSym_true {tm : Bool} {out : List Bool} {x : Int} (h : okSym tm out x = true) : (x ≥ 0 → tm = true) ∧ (x < 0 → rdOf false out (-1 - x) = true) := by
  unfold okSym at h
  constructor
  · intro hx
    rw [decide_eq_true hx, decide_eq_false (show ¬ x < 0 by omega)] at h
    simpa using h
  · intro hx
    rw [decide_eq_false (show ¬ x ≥ 0 by omega), decide_eq_true hx] at h
    simpa using h
theorem okSym_mk {tm : Bool} {out : List Bool} {x : Int} (h1 : x ≥ 0 → tm = true) (h2 : x < 0 → rdOf false out (-1 - x) = true) : okSym tm out x = true := by
  unfold okSym
  by_cases hx : x < 0
  · rw [decide_eq_false (show ¬ x ≥ 0 by omega), decide_eq_true hx, h2 hx]; rfl
  · rw [decide_eq_true (show x ≥ 0 by omega), decide_eq_false hx, h1 (by omega)]; rfl
theorem rdOf_set {α : Type} (d : α) (xs : List α) (i j : Nat) (v : α) (hi : i < xs.length) : rdOf d (xs.set i v) j = if i = j then v else rdOf d xs j := by
  simp only [rdOf, List.getD_eq_getElem?_getD, Int.toNat_natCast, List.getElem?_set]
  by_cases h : i = j
  · subst h; simp [hi]
  · simp [h]

/-- closed under the rules: it holds all of HP -/
theorem heads_all {rs : List Rul} {n : Nat} {tm : Bool} {out : List Bool} (hr : ∀ r ∈ rs, RulOk n r) (hd : ∀ r ∈ rs, chg tm out r = false) {i : Int} (h : HP rs tm i) : rdOf false out i = true := by
  induction h with
  | mk r hr' _ ht ih =>
    have hc := hd r hr'
    unfold chg at hc
    have ha : r.body.all (okSym tm out) = true := List.all_eq_true.2 fun x hx => okSym_mk (ht x hx) (fun hn => ih x hx hn)
    rw [ha] at hc
    simpa using hc

/-- one more nonterminal that a rule gives -/
theorem heads_step {rs : List Rul} {n : Nat} {tm : Bool} {out : List Bool} (hl : out.length = n) (hr : ∀ r ∈ rs, RulOk n r) (hs : ∀ k : Nat, k < n → rdOf false out k = true → HP rs tm k) {r : Rul} (hm : r ∈ rs)
    (hc : chg tm out r = true) : ∀ k : Nat, k < n → rdOf false (out.set r.head.toNat true) k = true → HP rs tm k := by
  intro k hk h
  have h0 := (hr r hm).1
  have h1 := (hr r hm).2.1
  rw [rdOf_set false out _ k true (by omega)] at h
  by_cases e : r.head.toNat = k
  · have : (k : Int) = r.head := by omega
    rw [this]
    unfold chg at hc
    have ha : r.body.all (okSym tm out) = true := by
      cases hb : r.body.all (okSym tm out) with
      | true => rfl
      | false => rw [hb] at hc; simp at hc
    refine HP.mk r hm (fun x hx hn => ?_) (fun x hx hp => (okSym_true (List.all_eq_true.1 ha x hx)).1 hp)
    have h2 := (hr r hm).2.2 x hx hn
    have := hs (-1 - x).toNat (by omega) (by rw [show (((-1 - x).toNat : Nat) : Int) = -1 - x by omega]; exact (okSym_true (List.all_eq_true.1 ha x hx)).2 hn)
    rwa [show (((-1 - x).toNat : Nat) : Int) = -1 - x by omega] at this
  · rw [if_neg e] at h
    exact hs k hk h

/-- how many are still false -/
def falses (out : List Bool) : Nat := out.countP (fun b => !b)
theorem falses_set (out : List Bool) (i : Nat) (h : i < out.length) (hf : rdOf false out i = false) : falses (out.set i true) < falses out := by
  induction out generalizing i with
  | nil => simp at h
  | cons b r ih =>
    cases i with
    | zero =>
      have : b = false := by simpa [rdOf] using hf
      subst this
      simp [falses]
    | succ i =>
      have := ih i (by simpa using h) (by simpa [rdOf] using hf)
      unfold falses at this ⊢
      simp only [List.set_cons_succ, List.countP_cons]
      omega

theorem info_bool : (Try.prog.info? 4).map (fun i => (i.zero, i.size, i.bytes)) = some (some (.bool false), 1, 1) := by kernel_rfl

def HeadsPost (g : Gr) (tm : Bool) (w : World) (e : Ending) (w' : World) : Prop :=
  ∃ v out, e = .returned v ∧ HeadsOut g.rules g.nonterms.length tm out ∧ Kd.R Kd.bool 4 w' w.heap.size (fun _ => True) v out ∧ Below w.heap.size w w'

theorem made_falses (n : Nat) : madeCells #[.bool false] n = ((List.replicate n false).map Value.bool).toArray := by
  apply Array.ext
  · simp [madeCells]
  · intro i h1 h2
    simp [madeCells, Nat.mod_one]
theorem heads_init (w : World) (o : Obj) (tm : Bool) (n : Nat) :
    HeadsMem ((((w.alloc o).alloc (.cells #[.bool tm] 4)).alloc (.cells (madeCells #[.bool false] n) 4)).alloc (.cells #[.slice (some ⟨w.heap.size + 1 + 1, 0, none⟩) n n] 36))
      (w.heap.size + 1) (w.heap.size + 1 + 1 + 1) (w.heap.size + 1 + 1) tm (List.replicate n false) := by
  have a1 : ((w.alloc o).alloc (.cells #[.bool tm] 4)).heap[w.heap.size + 1]? = some (.cells #[.bool tm] 4 (0, 0)) := by
    have := blk_new (w.alloc o) (.cells #[.bool tm] 4); simpa using this
  have a2 : (((w.alloc o).alloc (.cells #[.bool tm] 4)).alloc (.cells (madeCells #[.bool false] n) 4)).heap[w.heap.size + 1 + 1]? = some (.cells (madeCells #[.bool false] n) 4 (0, 0)) := by
    have := blk_new ((w.alloc o).alloc (.cells #[.bool tm] 4)) (.cells (madeCells #[.bool false] n) 4); simpa using this
  have a3 : ((((w.alloc o).alloc (.cells #[.bool tm] 4)).alloc (.cells (madeCells #[.bool false] n) 4)).alloc (.cells #[.slice (some ⟨w.heap.size + 1 + 1, 0, none⟩) n n] 36)).heap[w.heap.size + 1 + 1 + 1]? = some (.cells #[.slice (some ⟨w.heap.size + 1 + 1, 0, none⟩) n n] 36 (0, 0)) := by
    have := blk_new (((w.alloc o).alloc (.cells #[.bool tm] 4)).alloc (.cells (madeCells #[.bool false] n) 4)) (.cells #[.slice (some ⟨w.heap.size + 1 + 1, 0, none⟩) n n] 36); simpa using this
  exact ⟨blk_alloc (blk_alloc a1 _) _, by rw [List.length_replicate]; exact a3, by rw [← made_falses]; exact blk_alloc a2 _, by omega⟩

/-- A block of bools, read as a row of one's own. -/
theorem bools_own {w : World} {b base : Nat} {out : List Bool} (h : w.heap[b]? = some (.cells (out.map Value.bool).toArray 4 (0, 0))) (hb : base ≤ b) (hm : out.length ≤ maxLen) :
    Kd.R Kd.bool 4 w base (fun _ => True) (.slice (some ⟨b, 0, none⟩) out.length out.length) out :=
  Kd.R_of_own (enc := Value.bool) ⟨by simp [encs], .inr ⟨b, out.length, _, rfl, hb, h, Nat.le_refl _, hm, by simp, by simp [encs, List.take_of_length_le]⟩⟩ (fun _ _ => trivial)

set_option maxHeartbeats 1000000 in
set_option maxRecDepth 100000 in
theorem heads (g : Gr) (tm : Bool) (w : World)
    (At : Option Addr) (ct : Nat) (An : Option Addr) (cn : Nat) (Ar : Option Addr) (cr : Nat) (hg : GrC w At ct An cn Ar cr g)
    (hr : ∀ r ∈ g.rules, RulOk g.nonterms.length r) (hn : g.nonterms.length ≤ 140737488351232) :
    Calls Try.prog 29 #[.agg #[.slice At g.terms.length ct, .slice An g.nonterms.length cn, .int .i64 g.start, .slice Ar g.rules.length cr], .bool tm] w
      (HeadsPost g tm w) := by
  have HG := Aside0.mk hg
  have HR := Aside0.mk hr
  clear hg hr
  have hmk := print_make_of (P := Try.prog) 36 4 (.bool false) 1 Try.underlying36 info_bool rfl (by omega) g.nonterms.length (by omega)
  have HM0 := Aside0.mk (heads_init w (.cells #[.slice At g.terms.length ct, .slice An g.nonterms.length cn, .int .i64 g.start, .slice Ar g.rules.length cr] 25) tm g.nonterms.length)
  have hcf : ∀ args W, Sem.run Try.prog (callFunc 37 args) W = .ok (.enter 37 args) W := fun _ _ => rfl
  go_enter Try.func29, Try.ntmps29
  go_wp2_with fail
  refine (fixpoint (fun w1 out => HeadsMem w1 (w.heap.size + 1) (w.heap.size + 1 + 1 + 1) (w.heap.size + 1 + 1) tm out ∧ out.length = g.nonterms.length ∧ ∀ k : Nat, k < g.nonterms.length → rdOf false out k = true → HP g.rules tm k)
    (· = w.heap.size + 1 + 1) falses (fun out r => chg tm out r = false) g 37 _ w _ (List.replicate g.nonterms.length false) At ct An cn Ar cr HG.out
    (((((Below.refl _ _).alloc (Nat.le_refl _) _).alloc (by simp) _).alloc (by simp; omega) _).alloc (by simp; omega) _)
    (fun i hi => by subst hi; simp; omega) (fun w1 w2 s h hc => ⟨h.1.ch hc id id id, h.2⟩)
    ⟨HM0.out, by simp, fun k hk h => by simp [rdOf, List.getD_eq_getElem?_getD, hk] at h⟩ ?_ hcf).mono ?_
  · rintro w1 out r A c ⟨hm, hl, hs⟩ hmem hbody hc
    have hro := HR.out r hmem
    refine (heads1 r A c w1 _ _ _ tm out hm hbody hc (by rw [hl]; exact hro) (by omega)).mono ?_
    rintro e w' ⟨he, hch, hm'⟩
    refine ⟨chg tm out r, if chg tm out r then out.set r.head.toNat true else out, he, hch, ⟨hm', ?_, ?_⟩, ?_, ?_⟩
    · split <;> simp [hl]
    · cases hcg : chg tm out r with
      | true => simp only [if_true]; exact heads_step hl HR.out hs hmem hcg
      | false => simpa using hs
    · intro hcg
      rw [hcg, if_pos rfl]
      have h1 := hro.1
      have h2 := hro.2.1
      refine falses_set out _ (by omega) ?_
      unfold chg at hcg
      rw [show (((r.head.toNat : Nat) : Int)) = r.head by omega]
      cases hz : rdOf false out r.head with
      | false => rfl
      | true => rw [hz] at hcg; simp at hcg
    · intro hcg
      rw [hcg]
      exact ⟨rfl, hcg⟩
  rintro e w' ⟨rfl, out, hch, ⟨hm, hl, hs⟩, hd⟩
  have h5 : w'.cell? ⟨w.heap.size + 1 + 1 + 1, 0, none⟩ = some (.slice (some ⟨w.heap.size + 1 + 1, 0, none⟩) out.length out.length) := (blk_cell hm.o 0).trans rfl
  have HO := Aside0.mk (show HeadsOut g.rules g.nonterms.length tm out from ⟨hl, fun k hk => ⟨hs k hk, heads_all HR.out hd⟩⟩)
  have HV := Aside0.mk (bools_own (base := w.heap.size) hm.a (by omega) (by rw [hl]; unfold maxLen; omega))
  have HB := Aside0.mk (hch.under (((((Below.refl _ _).alloc (Nat.le_refl _) _).alloc (by simp) _).alloc (by simp; omega) _).alloc (by simp; omega) _) (by simp; omega) (fun i hi => by subst hi; omega))
  clear hm hl hs hd hch
  go_wp2_with fail
  go_ret
  exact ⟨_, out, rfl, HO.out, HV.out, HB.out⟩

set_option maxHeartbeats 1000000 in
set_option maxRecDepth 100000 in
theorem productive (g : Gr) (w : World)
    (At : Option Addr) (ct : Nat) (An : Option Addr) (cn : Nat) (Ar : Option Addr) (cr : Nat) (hg : GrC w At ct An cn Ar cr g)
    (hr : ∀ r ∈ g.rules, RulOk g.nonterms.length r) (hn : g.nonterms.length ≤ 140737488351232) :
    Calls Try.prog 16 #[.agg #[.slice At g.terms.length ct, .slice An g.nonterms.length cn, .int .i64 g.start, .slice Ar g.rules.length cr]] w
      (HeadsPost g true w) := by
  have HG := Aside0.mk hg
  have HR := Aside0.mk hr
  clear hg hr
  go_enter Try.func16, Try.ntmps16
  go_wp2_with fail
  refine (heads g true _ At ct An cn Ar cr (HG.out.below ((Below.refl _ _).alloc (Nat.le_refl _) _)) HR.out hn).mono ?_
  rintro e w' ⟨v, out, rfl, ho, hv, hb⟩
  have HO := Aside0.mk ho
  have HV := Aside0.mk (Kd.R_lower hv (show w.heap.size ≤ _ by simp))
  have HB := Aside0.mk (((Below.refl w.heap.size w).alloc (Nat.le_refl _) _).trans (hb.mono (by simp)))
  clear ho hv hb
  go_wp2_with fail
  go_ret
  exact ⟨v, out, rfl, HO.out, HV.out, HB.out⟩
end Go.Proofs.Ytadednkdhblpfaa.Ana
