/- Package reduce, walked: works, useful. -/
import Derived.Test.YtadednkdhblpfaaValid
import Derived.Test.YtadednkdhblpfaaAna
namespace Go.Proofs.Ytadednkdhblpfaa.Red
open Go.RowKit Go.Proofs.YtadednkdhblpfaaW.PrintWords Go.Proofs.YtadednkdhblpfaaW.PrintLast Go.Proofs.YtadednkdhblpfaaW.PrintMore Go.Proofs.Ytadednkdhblpfaa.B Go.Proofs.Ytadednkdhblpfaa.Ana Go.Proofs.Ytadednkdhblpfaa.Val
set_option linter.unusedVariables false
set_option linter.unusedSimpArgs false

/-- a symbol that is not productive -/
def dead (out : List Bool) (x : Int) : Bool := decide (x < 0) && !(rdOf false out (-1 - x))
def worksB (out : List Bool) (body : List Int) : Bool := !(body.any (dead out))

theorem at_bool {w : World} {A : Option Addr} {n : Nat} {xs : List Bool} (h : Kd.C Kd.bool w A n xs) (k : Nat) (hk : k < n) :
    ∃ ad, A = some ad ∧ w.cell? (ad.add k) = some (.bool (rdOf false xs k)) := by
  obtain ⟨ad, c, e, _, hK, hc⟩ := Kd.C_get h false (k : Int) (by omega) (by omega)
  have h0 := hc 0 (.bool (rdOf false xs k)) (by rw [hK]; rfl)
  refine ⟨ad, e, ?_⟩
  have : Kd.sz Kd.bool = 1 := rfl
  rw [this, Nat.mul_one, Nat.add_zero] at h0
  exact h0

set_option maxHeartbeats 1000000 in
set_option maxRecDepth 100000 in
theorem works1 (x : Int) (pb : Nat) (w : World) (A : Option Addr) (c : Nat) (out : List Bool) (h1 : w.cell? ⟨pb, 0, none⟩ = some (.slice A out.length c)) (hp : Kd.C Kd.bool w A out.length out) (hx : x < 0 → -x ≤ out.length) :
    Calls Try.prog 35 #[.int .i64 x, .pointer (some ⟨pb, 0, none⟩)] w fun e w' => e = .returned (.bool (dead out x)) ∧ Drawn0 w w' := by
  have hn : out.length ≤ 9223372036854775807 := hp.2.1
  by_cases hneg : x < 0
  · have hk : (-1 - x).toNat < out.length := by have := hx hneg; omega
    obtain ⟨ad, e, h3⟩ := at_bool hp (-1 - x).toNat hk
    cases e
    rw [show (((-1 - x).toNat : Nat) : Int) = -1 - x by omega] at h3
    have hb : 0 ≤ -1 - x ∧ -1 - x < (out.length : Int) := by omega
    have HF := Aside0.mk (show dead out x = !(rdOf false out (-1 - x)) by unfold dead; rw [decide_eq_true hneg]; rfl)
    clear hp hx
    go_enter Try.func35, Try.ntmps35
    go_wp2_with fail
    go_ret
    exact ⟨rb HF.out, drawn_refl _⟩
  · have HF := Aside0.mk (show dead out x = false by unfold dead; rw [decide_eq_false hneg]; rfl)
    clear hp hx
    go_enter Try.func35, Try.ntmps35
    go_wp2_with fail
    go_ret
    exact ⟨rb HF.out, drawn_refl _⟩

set_option maxHeartbeats 1000000 in
set_option maxRecDepth 100000 in
theorem works (A0 : Option Addr) (c0 : Nat) (body : List Int) (Ap : Option Addr) (cp : Nat) (out : List Bool) (w : World)
    (hb : Kd.C (Kd.int .i64) w A0 body.length body) (hc0 : body.length ≤ c0) (hp : Kd.C Kd.bool w Ap out.length out) (hcp : out.length ≤ cp) (hx : ∀ x ∈ body, x < 0 → -x ≤ out.length) :
    Calls Try.prog 21 #[.slice A0 body.length c0, .slice Ap out.length cp] w fun e w' => e = .returned (.bool (worksB out body)) ∧ Below w.heap.size w w' := by
  have HB := Aside0.mk hb
  have HC := Aside0.mk hc0
  have HP := Aside0.mk hp
  have HX := Aside0.mk hx
  have hcf : ∀ args W, Sem.run Try.prog (callFunc 35 args) W = .ok (.enter 35 args) W := fun _ _ => rfl
  clear hb hc0 hp hcp hx
  go_enter Try.func21, Try.ntmps21
  go_wp2_with fail
  refine (containsFunc A0 c0 body 35 #[.pointer (some ⟨w.heap.size, 0, none⟩)] (dead out) _ (Kd.C_alloc HB.out _) HC.out ?_ hcf).mono ?_
  · intro m x hm
    exact works1 x w.heap.size _ Ap cp out ((blk_cell (blk_drewN (blk_new w (.cells #[.slice Ap out.length cp] 36)) m) 0).trans rfl) (Kd.C_drewN (Kd.C_alloc HP.out _) m) (HX.out x hm)
  rintro e w' ⟨rfl, ⟨m, rfl⟩⟩
  go_wp2_with fail
  go_ret
  exact ⟨rfl, pw_below_drewN ((Below.refl _ _).alloc (Nat.le_refl _) _) m⟩

/-- The useful nonterminals: the start, and those in a rule that works of a useful one. -/
inductive UP (g : Gr) (pr : List Bool) : Int → Prop
  | start : UP g pr g.start
  | step (r : Rul) (hr : r ∈ g.rules) (hh : UP g pr r.head) (hw : worksB pr r.body = true) (x : Int) (hx : x ∈ r.body) (hn : x < 0) : UP g pr (-1 - x)
structure UsefulOut (g : Gr) (pr : List Bool) (out : List Bool) : Prop where
  len : out.length = g.nonterms.length
  iff : ∀ k : Nat, k < g.nonterms.length → (rdOf false out k = true ↔ UP g pr k)

/-- what holds of the list at every step -/
structure UInv (g : Gr) (pr : List Bool) (out : List Bool) : Prop where
  len : out.length = g.nonterms.length
  start : rdOf false out g.start = true
  sound : ∀ k : Nat, k < g.nonterms.length → rdOf false out k = true → UP g pr k
/-- a rule asks for nothing more -/
def RuleShut (pr out : List Bool) (r : Rul) : Prop := rdOf false out r.head = true → worksB pr r.body = true → ∀ x ∈ r.body, x < 0 → rdOf false out (-1 - x) = true

theorem useful_all {g : Gr} {pr out : List Bool} (hi : UInv g pr out) (hc : ∀ r ∈ g.rules, RuleShut pr out r) {i : Int} (h : UP g pr i) : rdOf false out i = true := by
  induction h with
  | start => exact hi.start
  | step r hr _ hw x hx hn ih => exact hc r hr ih hw x hx hn
theorem uinv_put {g : Gr} {pr out : List Bool} (hi : UInv g pr out) (hr : ∀ r ∈ g.rules, RulOk g.nonterms.length r) (hs : 0 ≤ g.start ∧ g.start < g.nonterms.length) {r : Rul} (hm : r ∈ g.rules) (hh : rdOf false out r.head = true) (hw : worksB pr r.body = true) {x : Int} (hx : x ∈ r.body) (hn : x < 0) :
    UInv g pr (out.set (-1 - x).toNat true) := by
  have h2 := (hr r hm).2.2 x hx hn
  have h0 := (hr r hm).1
  have h1 := (hr r hm).2.1
  have hl := hi.len
  refine ⟨by simp [hi.len], ?_, ?_⟩
  · have := rdOf_set false out (-1 - x).toNat g.start.toNat true (by omega)
    rw [show ((g.start.toNat : Nat) : Int) = g.start by omega] at this
    rw [this]; split
    · rfl
    · exact hi.start
  · intro k hk h
    rw [rdOf_set false out _ k true (by omega)] at h
    by_cases e : (-1 - x).toNat = k
    · have hu : UP g pr r.head := by
        have := hi.sound r.head.toNat (by omega) (by rw [show ((r.head.toNat : Nat) : Int) = r.head by omega]; exact hh)
        rwa [show ((r.head.toNat : Nat) : Int) = r.head by omega] at this
      have := UP.step r hm hu hw x hx hn
      rwa [show (k : Int) = -1 - x by omega]
    · rw [if_neg e] at h; exact hi.sound k hk h

/-- useful's memory: the grammar's box, the list's block -/
structure UMem (g : Gr) (w wr : World) (v : Array Value) (out : List Bool) : Prop where
  z : wr.heap[w.heap.size]? = some (.cells v 25 (0, 0))
  a : wr.heap[w.heap.size + 1]? = some (.cells (out.map Value.bool).toArray 4 (0, 0))
  b : Below w.heap.size w wr
theorem UMem.below {g : Gr} {w wr w2 : World} {v : Array Value} {out : List Bool} (h : UMem g w wr v out) (k : Below wr.heap.size wr w2) : UMem g w w2 v out :=
  ⟨blk_below h.z k, blk_below h.a k, h.b.trans (k.mono h.b.size)⟩
theorem UMem.put {g : Gr} {w wr : World} {v : Array Value} {out : List Bool} (h : UMem g w wr v out) (i : Nat) (b : Bool) : UMem g w (wr.setCell ⟨w.heap.size + 1, i, none⟩ (.bool b)) v (out.set i b) :=
  ⟨blk_far h.z (by simp) _, by rw [← bools_set]; exact blk_set h.a i _, h.b.setCell (by simp) _⟩

def UsefulPost (g : Gr) (pr : List Bool) (w : World) (e : Ending) (w' : World) : Prop :=
  ∃ v out, e = .returned v ∧ UsefulOut g pr out ∧ Kd.R Kd.bool 4 w' w.heap.size (fun _ => True) v out ∧ Below w.heap.size w w'

set_option maxHeartbeats 4000000 in
set_option maxRecDepth 100000 in
theorem useful (g : Gr) (pr : List Bool) (w : World)
    (At : Option Addr) (ct : Nat) (An : Option Addr) (cn : Nat) (Ar : Option Addr) (cr : Nat) (hg : GrC w At ct An cn Ar cr g) (Ap : Option Addr) (cp : Nat)
    (hp : Kd.C Kd.bool w Ap pr.length pr) (hcp : pr.length ≤ cp) (hpl : pr.length = g.nonterms.length)
    (hr : ∀ r ∈ g.rules, RulOk g.nonterms.length r) (hs : 0 ≤ g.start ∧ g.start < g.nonterms.length) (hn : g.nonterms.length ≤ 140737488351232) :
    Calls Try.prog 19 #[.agg #[.slice At g.terms.length ct, .slice An g.nonterms.length cn, .int .i64 g.start, .slice Ar g.rules.length cr], .slice Ap pr.length cp] w
      (UsefulPost g pr w) := by
  have HG := Aside0.mk hg
  have HR := Aside0.mk hr
  have HP := Aside0.mk hp
  have HCP := Aside0.mk hcp
  have HPL := Aside0.mk hpl
  have hm : g.rules.length ≤ 9223372036854775807 := hg.rules.2.1
  clear hg hr hp hcp hpl
  have hmk := print_make_of (P := Try.prog) 36 4 (.bool false) 1 Try.underlying36 info_bool rfl (by omega) g.nonterms.length (by omega)
  have hget : (madeCells #[.bool false] g.nonterms.length)[g.start.toNat]? = some (.bool false) := by
    have : g.start.toNat < g.nonterms.length := by omega
    rw [made_falses]; simp [this]
  go_enter Try.func19, Try.ntmps19
  go_wp2_with fail
  generalize hW0 : (w.alloc (.cells #[.slice At g.terms.length ct, .slice An g.nonterms.length cn, .int .i64 g.start, .slice Ar g.rules.length cr] 25)).alloc (.cells ((madeCells #[.bool false] g.nonterms.length).setIfInBounds g.start.toNat (.bool true)) 4) = W0
  have HM0 := Aside0.mk (show UMem g w W0 #[.slice At g.terms.length ct, .slice An g.nonterms.length cn, .int .i64 g.start, .slice Ar g.rules.length cr] ((List.replicate g.nonterms.length false).set g.start.toNat true) by
    rw [← hW0]
    refine ⟨blk_alloc (blk_new w _) _, ?_, ((Below.refl _ _).alloc (Nat.le_refl _) _).alloc (by simp) _⟩
    have := blk_new (w.alloc (.cells #[.slice At g.terms.length ct, .slice An g.nonterms.length cn, .int .i64 g.start, .slice Ar g.rules.length cr] 25)) (.cells ((madeCells #[.bool false] g.nonterms.length).setIfInBounds g.start.toNat (.bool true)) 4)
    rw [made_falses, bools_set] at this
    rw [made_falses, bools_set]
    simpa using this)
  have HI0 := Aside0.mk (show UInv g pr ((List.replicate g.nonterms.length false).set g.start.toNat true) by
    have hst : ((g.start.toNat : Nat) : Int) = g.start := by omega
    refine ⟨by simp, ?_, ?_⟩
    · have := rdOf_set false (List.replicate g.nonterms.length false) g.start.toNat g.start.toNat true (by simp; omega)
      rw [if_pos rfl, hst] at this
      exact this
    · intro k hk h
      rw [rdOf_set false _ _ k true (by simp; omega)] at h
      by_cases e : g.start.toNat = k
      · have := UP.start (g := g) (pr := pr)
        rwa [show (k : Int) = g.start by omega]
      · rw [if_neg e] at h
        simp [rdOf, List.getD_eq_getElem?_getD, hk] at h)
  clear hW0 hget hmk
  go_loopg [6] (2 * falses ((List.replicate g.nonterms.length false).set g.start.toNat true) + 2) (fun kq m wr => ∃ (mo : Bool) (out : List Bool), m = .bool mo ∧ Aside0 (2 * falses out + (if mo then 1 else 0) < kq) ∧ Aside0 (mo = false → ∀ r ∈ g.rules, RuleShut pr out r) ∧ Aside0 (UInv g pr out) ∧ Aside0 (UMem g w wr #[.slice At g.terms.length ct, .slice An g.nonterms.length cn, .int .i64 g.start, .slice Ar g.rules.length cr] out))
  case atStart => exact ⟨true, _, rfl, ⟨by simp⟩, ⟨fun h => by cases h⟩, HI0, HM0⟩
  case round =>
    clear HI0 HM0
    obtain ⟨mo, out0, rfl, HQ, HS, HI, HM⟩ := hrel
    obtain ⟨wo, rfl⟩ : ∃ wo : World, wo = wr := ⟨_, rfl⟩
    cases mo with
    | false =>
      have HSt := Aside0.mk (HS.out rfl)
      have HO := Aside0.mk (show UsefulOut g pr out0 from ⟨HI.out.len, fun k hk => ⟨HI.out.sound k hk, useful_all HI.out HSt.out⟩⟩)
      have HV := Aside0.mk (bools_own (base := w.heap.size) HM.out.a (by omega) (by rw [HI.out.len]; unfold maxLen; omega))
      have hol := HI.out.len
      have HL := Aside0.mk hol
      clear HS hol
      go_wp2_with fail
      go_ret
      exact ⟨_, out0, rfl, HO.out, by rw [HL.out] at HV; exact HV.out, HM.out.b⟩
    | true =>
      clear HS
      have c3 : wo.cell? ⟨w.heap.size, 3, none⟩ = some (.slice Ar g.rules.length cr) := (blk_cell HM.out.z 3).trans rfl
      have HQ1 := Aside0.mk (show 2 * falses out0 + 1 < gk from HQ.out)
      clear HQ
      go_wp2_with fail
      clear c3
      go_loopw [6, 23] (fun m i wr => ∃ (mo : Bool) (k : Nat) (out : List Bool), m = .bool mo ∧ i = .int .i64 k ∧ k ≤ g.rules.length ∧ Aside0 (mo = false → out = out0 ∧ ∀ j, j < k → RuleShut pr out (rdOf Rul.zero g.rules j)) ∧ Aside0 (mo = true → falses out < falses out0) ∧ Aside0 (UInv g pr out) ∧ Aside0 (UMem g w wr #[.slice At g.terms.length ct, .slice An g.nonterms.length cn, .int .i64 g.start, .slice Ar g.rules.length cr] out)) (fun _ i _ => g.rules.length - (intOf i).toNat)
      case atStart => exact ⟨false, 0, out0, rfl, rfl, by omega, ⟨fun _ => ⟨rfl, fun j hj => absurd hj (by omega)⟩⟩, ⟨fun h => by cases h⟩, HI, HM⟩
      case round =>
        clear HI HM
        obtain ⟨mo, k, out, rfl, rfl, hk, HS, HF, HI, HM⟩ := hrel
        obtain ⟨wp, rfl⟩ : ∃ wp : World, wp = wr := ⟨_, rfl⟩
        by_cases hlt : k < g.rules.length
        · obtain ⟨ad, A1, c1, e, h1, h2, h3, hl, hc⟩ := at_rul HG.out.rules k hlt
          replace h1 := (HM.out.b.cell (World.block_lt_of_cell? w _ h1)).trans h1
          replace h2 := (HM.out.b.cell (World.block_lt_of_cell? w _ h2)).trans h2
          replace h3 := (HM.out.b.cell (World.block_lt_of_cell? w _ h3)).trans h3
          have HMem := Aside0.mk (rdOf_mem Rul.zero g.rules k hlt)
          have hd1 : decide ((k : Int) < (g.rules.length : Int)) = true := decide_eq_true (by omega)
          have HC := Aside0.mk hc
          have HLc := Aside0.mk hl
          have hrok := HR.out _ HMem.out
          clear hc hl
          cases e
          generalize hrx : rdOf Rul.zero g.rules k = rx at *
          have HRX := Aside0.mk hrx
          clear hrx
          have hro := hrok
          have hh0 := hro.1
          have hh1 := hro.2.1
          have HRO := Aside0.mk hrok
          clear hro hrok
          have hol := HI.out.len
          have h4 := arr_cell HM.out.a rx.head.toNat (by omega)
          rw [show ((rx.head.toNat : Nat) : Int) = rx.head by omega] at h4
          have l1 := blk_lt HM.out.a
          have HOL := Aside0.mk hol
          clear hol
          cases hh : rdOf false out rx.head with
          | false =>
            rw [hh] at h4
            have HS2 := Aside0.mk (show mo = false → out = out0 ∧ ∀ j, j < k + 1 → RuleShut pr out (rdOf Rul.zero g.rules j) from fun h => ⟨(HS.out h).1, fun j hj => by
              rcases Nat.lt_succ_iff_lt_or_eq.1 hj with h' | rfl
              · exact (HS.out h).2 j h'
              · rw [HRX.out]; intro hx; rw [hh] at hx; cases hx⟩)
            clear hh
            go_wp2_with fail
            go_roundw
            case rel => exact ⟨mo, k + 1, out, rfl, by simp, by omega, HS2, HF, HI, ⟨HM.out.below (below_alloc (Below.refl _ _) _)⟩⟩
            case measure => simp [intOf]; omega
          | true =>
            rw [hh] at h4
            have HH := Aside0.mk hh
            clear hh
            go_wp2_with fail
            refine (works A1 c1 rx.body Ap cp pr _ (Kd.C_alloc (Kd.C_below HC.out HM.out.b) _) HLc.out (Kd.C_alloc (Kd.C_below HP.out HM.out.b) _) HCP.out (fun x hx hneg => by rw [HPL.out]; exact HRO.out.2.2 x hx hneg)).mono ?_
            rintro e w1 ⟨rfl, hb1⟩
            have HM1 := Aside0.mk (HM.out.below (((Below.refl wp.heap.size wp).alloc (Nat.le_refl _) (.cells #[.int .i64 rx.head, .slice A1 rx.body.length c1, .int .i64 rx.price] 42)).trans (hb1.mono (by simp))))
            have hz1 := blk_below (blk_new wp (.cells #[.int .i64 rx.head, .slice A1 rx.body.length c1, .int .i64 rx.price] 42)) hb1
            have b1 : w1.cell? ⟨wp.heap.size, 1, none⟩ = some (.slice A1 rx.body.length c1) := (blk_cell hz1 1).trans rfl
            clear hb1 hz1 HM h1 h2 h3 h4 l1
            cases hw : worksB pr rx.body with
            | false =>
              have HS2 := Aside0.mk (show mo = false → out = out0 ∧ ∀ j, j < k + 1 → RuleShut pr out (rdOf Rul.zero g.rules j) from fun h => ⟨(HS.out h).1, fun j hj => by
                rcases Nat.lt_succ_iff_lt_or_eq.1 hj with h' | rfl
                · exact (HS.out h).2 j h'
                · rw [HRX.out]; intro _ hx; rw [hw] at hx; cases hx⟩)
              clear hw
              go_wp2_with fail
              go_roundw
              case rel => exact ⟨mo, k + 1, out, rfl, by simp, by omega, HS2, HF, HI, HM1⟩
              case measure => simp [intOf]; omega
            | true =>
              have HW := Aside0.mk hw
              clear hw
              have hbm : rx.body.length ≤ 9223372036854775807 := HC.out.2.1
              have HX := Aside0.mk HH.out
              go_wp2_with fail
              clear b1
              go_loopw [6, 43] (fun m i wr => ∃ (mo : Bool) (q : Nat) (ot : List Bool), m = .bool mo ∧ i = .int .i64 q ∧ q ≤ rx.body.length ∧ Aside0 (mo = false → ot = out0 ∧ (∀ j, j < k → RuleShut pr ot (rdOf Rul.zero g.rules j)) ∧ ∀ p, p < q → rd rx.body p < 0 → rdOf false ot (-1 - rd rx.body p) = true) ∧ Aside0 (mo = true → falses ot < falses out0) ∧ Aside0 (rdOf false ot rx.head = true) ∧ Aside0 (UInv g pr ot) ∧ Aside0 (UMem g w wr #[.slice At g.terms.length ct, .slice An g.nonterms.length cn, .int .i64 g.start, .slice (some ad) g.rules.length cr] ot)) (fun _ i _ => rx.body.length - (intOf i).toNat)
              case atStart => exact ⟨mo, 0, out, rfl, rfl, by omega, ⟨fun h => ⟨(HS.out h).1, (HS.out h).2, fun p hp => absurd hp (by omega)⟩⟩, HF, HX, HI, HM1⟩
              case round =>
                clear HS HF HX HI HM1 HH HOL
                obtain ⟨mo, q, ot, rfl, rfl, hq, HS, HF, HX, HI, HM⟩ := hrel
                by_cases hqt : q < rx.body.length
                · obtain ⟨ae, e, hx⟩ := at_int HC.out q hqt
                  cases e
                  replace hx := (HM.out.b.cell (World.block_lt_of_cell? w _ hx)).trans hx
                  have HXm := Aside0.mk (rd_mem rx.body q hqt)
                  generalize hxe : rd rx.body q = x at *
                  have HXE := Aside0.mk hxe
                  clear hxe
                  by_cases hneg : x < 0
                  · have hxr := HRO.out.2.2 x HXm.out hneg
                    have hol := HI.out.len
                    have h4 := arr_cell HM.out.a (-1 - x).toNat (by omega)
                    rw [show (((-1 - x).toNat : Nat) : Int) = -1 - x by omega] at h4
                    have hb : 0 ≤ -1 - x ∧ -1 - x < (g.nonterms.length : Int) := by omega
                    have hfz := blk_frozen HM.out.a (-1 - x).toNat
                    have HOL := Aside0.mk hol
                    clear hol
                    cases ho : rdOf false ot (-1 - x) with
                    | true =>
                      rw [ho] at h4
                      have HS2 := Aside0.mk (show mo = false → ot = out0 ∧ (∀ j, j < k → RuleShut pr ot (rdOf Rul.zero g.rules j)) ∧ ∀ p, p < q + 1 → rd rx.body p < 0 → rdOf false ot (-1 - rd rx.body p) = true from fun h => ⟨(HS.out h).1, (HS.out h).2.1, fun p hp hp0 => by
                        rcases Nat.lt_succ_iff_lt_or_eq.1 hp with h' | rfl
                        · exact (HS.out h).2.2 p h' hp0
                        · rw [HXE.out]; exact ho⟩)
                      clear ho HS
                      go_wp2_with fail
                      go_roundw
                      case rel => exact ⟨mo, q + 1, ot, rfl, by simp, by omega, HS2, HF, HX, HI, HM⟩
                      case measure => simp [intOf]; omega
                    | false =>
                      rw [ho] at h4
                      have HI2 := Aside0.mk (uinv_put HI.out HR.out hs HMem.out HX.out HW.out HXm.out hneg)
                      have HM2 := Aside0.mk (HM.out.put (-1 - x).toNat true)
                      have HF2 := Aside0.mk (show falses (ot.set (-1 - x).toNat true) < falses out0 by
                        have h1 := falses_set ot (-1 - x).toNat (by rw [HOL.out]; omega) (by rw [show (((-1 - x).toNat : Nat) : Int) = -1 - x by omega]; exact ho)
                        cases mo with
                        | true => exact Nat.lt_trans h1 (HF.out rfl)
                        | false => rw [(HS.out rfl).1] at h1 ⊢; exact h1)
                      have HX2 := Aside0.mk (show rdOf false (ot.set (-1 - x).toNat true) rx.head = true by
                        have := rdOf_set false ot (-1 - x).toNat rx.head.toNat true (by rw [HOL.out]; omega)
                        rw [show ((rx.head.toNat : Nat) : Int) = rx.head by omega] at this
                        rw [this]; split
                        · rfl
                        · exact HX.out)
                      clear ho HS HF HX HI HM
                      go_wp2_with fail
                      go_roundw
                      case rel => exact ⟨true, q + 1, _, rfl, by simp, by omega, ⟨fun h => by cases h⟩, ⟨fun _ => HF2.out⟩, HX2, HI2, HM2⟩
                      case measure => simp [intOf]; omega
                  · have HS2 := Aside0.mk (show mo = false → ot = out0 ∧ (∀ j, j < k → RuleShut pr ot (rdOf Rul.zero g.rules j)) ∧ ∀ p, p < q + 1 → rd rx.body p < 0 → rdOf false ot (-1 - rd rx.body p) = true from fun h => ⟨(HS.out h).1, (HS.out h).2.1, fun p hp hp0 => by
                      rcases Nat.lt_succ_iff_lt_or_eq.1 hp with h' | rfl
                      · exact (HS.out h).2.2 p h' hp0
                      · rw [HXE.out] at hp0; exact absurd hp0 hneg⟩)
                    clear HS
                    go_wp2_with fail
                    go_roundw
                    case rel => exact ⟨mo, q + 1, ot, rfl, by simp, by omega, HS2, HF, HX, HI, HM⟩
                    case measure => simp [intOf]; omega
                · obtain rfl : q = rx.body.length := by omega
                  have HS2 := Aside0.mk (show mo = false → ot = out0 ∧ ∀ j, j < k + 1 → RuleShut pr ot (rdOf Rul.zero g.rules j) from fun h => ⟨(HS.out h).1, fun j hj => by
                    rcases Nat.lt_succ_iff_lt_or_eq.1 hj with h' | rfl
                    · exact (HS.out h).2.1 j h'
                    · rw [HRX.out]; intro _ _ x hx hneg
                      obtain ⟨p, hp, rfl⟩ := List.getElem_of_mem hx
                      have := (HS.out h).2.2 p hp
                      rw [rd_nat _ _ hp] at this
                      exact this hneg⟩)
                  clear HS
                  go_wp2_with fail
                  go_roundw
                  case rel => exact ⟨mo, k + 1, ot, rfl, by simp, by omega, HS2, HF, HI, HM⟩
                  case measure => simp [intOf]; omega
        · obtain rfl : k = g.rules.length := by omega
          have HSt := Aside0.mk (show mo = false → ∀ r ∈ g.rules, RuleShut pr out r from fun h r hr => by
            obtain ⟨j, hj, rfl⟩ := List.getElem_of_mem hr
            have := (HS.out h).2 j hj
            rwa [rdOf_nat Rul.zero g.rules j hj] at this)
          have HQ2 := Aside0.mk (show 2 * falses out + (if mo then 1 else 0) < 2 * falses out0 + 1 by
            cases mo with
            | true => have := HF.out rfl; simp; omega
            | false => rw [(HS.out rfl).1]; simp)
          clear HS HF
          go_wp2_with fail
          go_roundg (2 * falses out0 + 1)
          case measure => exact HQ1.out
          case rel => exact ⟨mo, out, rfl, HQ2, HSt, HI, HM⟩
end Go.Proofs.Ytadednkdhblpfaa.Red
