/- emendateref19.Derives, walked: the table of what the nonterminals derive. -/
import Derived.Test.YtadednkdhblpfaaBodyW
namespace Go.Proofs.Ytadednkdhblpfaa.Tb
open Go.RowKit Go.Proofs.YtadednkdhblpfaaW.PrintWords Go.Proofs.YtadednkdhblpfaaW.PrintLast Go.Proofs.YtadednkdhblpfaaW.PrintMore Go.Proofs.Ytadednkdhblpfaa.B Go.Proofs.Ytadednkdhblpfaa.Val Go.Proofs.Ytadednkdhblpfaa.Ana Go.Proofs.Ytadednkdhblpfaa.Red Go.Proofs.Ytadednkdhblpfaa.Law
set_option linter.unusedVariables false
set_option linter.unusedSimpArgs false

/-! How many entries are false. -/
def trip (n L : Nat) : List (Nat × Nat × Nat) := (List.range n).flatMap (fun a => (List.range (L + 1)).flatMap (fun q => (List.range (L + 1)).map (fun j => (a, q, j))))
theorem mem_trip {n L a q j : Nat} (ha : a < n) (hq : q ≤ L) (hj : j ≤ L) : (a, q, j) ∈ trip n L := by
  unfold trip
  rw [List.mem_flatMap]
  refine ⟨a, by simpa using ha, ?_⟩
  rw [List.mem_flatMap]
  refine ⟨q, by simp; omega, ?_⟩
  rw [List.mem_map]
  exact ⟨j, by simp; omega, rfl⟩
def fcount (n L : Nat) (T : Int → Nat → Nat → Bool) : Nat := ((trip n L).filter (fun p => !(T (p.1 : Nat) p.2.1 p.2.2))).length
theorem filter_lt {α : Type} {P P' : α → Bool} (l : List α) (h : ∀ x, P' x = true → P x = true) (he : ∃ x ∈ l, P x = true ∧ P' x = false) : (l.filter P').length < (l.filter P).length := by
  have hle : ∀ l : List α, (l.filter P').length ≤ (l.filter P).length := by
    intro l
    induction l with
    | nil => simp
    | cons y l ih =>
      cases hp : P' y with
      | true => rw [List.filter_cons_of_pos hp, List.filter_cons_of_pos (h y hp)]; simp; exact ih
      | false =>
        rw [List.filter_cons_of_neg (by rw [hp]; simp)]
        cases hq : P y with
        | true => rw [List.filter_cons_of_pos hq]; simp; omega
        | false => rw [List.filter_cons_of_neg (by rw [hq]; simp)]; exact ih
  induction l with
  | nil => obtain ⟨x, hx, _⟩ := he; cases hx
  | cons y l ih =>
    obtain ⟨x, hx, h1, h2⟩ := he
    rcases List.mem_cons.1 hx with rfl | hx
    · rw [List.filter_cons_of_neg (by rw [h2]; simp), List.filter_cons_of_pos h1]
      have := hle l
      simp; omega
    · have := ih ⟨x, hx, h1, h2⟩
      cases hp : P' y with
      | true => rw [List.filter_cons_of_pos hp, List.filter_cons_of_pos (h y hp)]; simp; exact this
      | false =>
        rw [List.filter_cons_of_neg (by rw [hp]; simp)]
        cases hq : P y with
        | true => rw [List.filter_cons_of_pos hq]; simp; omega
        | false => rw [List.filter_cons_of_neg (by rw [hq]; simp)]; exact this
/-- one entry more -/
def upd (T : Int → Nat → Nat → Bool) (h : Int) (i k : Nat) : Int → Nat → Nat → Bool := fun a q j => if a = h ∧ q = i ∧ j = k then true else T a q j
theorem fcount_upd {n L : Nat} {T : Int → Nat → Nat → Bool} {h : Int} {i k : Nat} (h0 : 0 ≤ h) (h1 : h < n) (hi : i ≤ L) (hk : k ≤ L) (hf : T h i k = false) : fcount n L (upd T h i k) < fcount n L T := by
  unfold fcount
  refine filter_lt _ (fun x hx => ?_) ⟨(h.toNat, i, k), mem_trip (by omega) hi hk, ?_, ?_⟩
  · rw [Bool.not_eq_true'] at hx ⊢
    unfold upd at hx
    split at hx
    · cases hx
    · exact hx
  · show (!(T ((h.toNat : Nat) : Int) i k)) = true
    rw [show ((h.toNat : Nat) : Int) = h by omega, hf]; rfl
  · show (!(upd T h i k ((h.toNat : Nat) : Int) i k)) = false
    rw [show ((h.toNat : Nat) : Int) = h by omega]; simp [upd]

/-- a table none of whose entries is wrong -/
def Sound (rs : List Rul) (s : List Int) (T : Int → Nat → Nat → Bool) : Prop := ∀ a i k, i ≤ k → k ≤ s.length → T a i k = true → Der rs s a i k
theorem Sound.upd {rs : List Rul} {s : List Int} {T : Int → Nat → Nat → Bool} (h : Sound rs s T) {r : Rul} (hr : r ∈ rs) {i k : Nat} (hik : i ≤ k) (hk : k ≤ s.length) (hb : bodyB T s r.body i k = true) : Sound rs s (upd T r.head i k) := by
  intro a q j h1 h2 h3
  unfold Tb.upd at h3
  split at h3
  · rename_i e
    obtain ⟨rfl, rfl, rfl⟩ := e
    exact ⟨r, hr, rfl, bodyB_sound h _ _ _ h1 h2 hb⟩
  · exact h a q j h1 h2 h3
/-- a rule asks nothing more of a table at a piece -/
def Chk (T : Int → Nat → Nat → Bool) (s : List Int) (r : Rul) (i k : Nat) : Prop := bodyB T s r.body i k = true → T r.head i k = true

/-- the grammar's box and the table -/
structure DM (w W0 wr : World) (GB : Array Value) (n L : Nat) (T : Int → Nat → Nat → Bool) : Prop where
  z : wr.heap[w.heap.size]? = some (.cells GB 25 (0, 0))
  t : Tab wr W0.heap.size n L T
  b : Below W0.heap.size W0 wr
theorem DM.drewN {w W0 wr : World} {GB : Array Value} {n L : Nat} {T : Int → Nat → Nat → Bool} (h : DM w W0 wr GB n L T) (m : Nat) : DM w W0 (wr.drewN m) GB n L T :=
  ⟨blk_drewN h.z m, h.t.below (pw_below_drewN (Below.refl _ _) m), pw_below_drewN h.b m⟩
theorem DM.put {w W0 wr : World} {GB : Array Value} {n L : Nat} {T : Int → Nat → Nat → Bool} (h : DM w W0 wr GB n L T) (hw : w.heap.size < W0.heap.size) {x : Int} {i k : Nat} (h0 : 0 ≤ x) (h1 : x < n) (hi : i ≤ L) :
    DM w W0 (wr.setCell ⟨ibk W0.heap.size L x.toNat i, k, none⟩ (.bool true)) GB n L (upd T x i k) :=
  ⟨(Below.heap_setCell wr _ _ _ (by unfold ibk; simp; omega)).trans h.z, h.t.put (by omega) hi (fun c r j hc hr hj => by
    unfold upd
    by_cases e : c = x.toNat ∧ r = i ∧ j = k
    · rw [if_pos e, if_pos ⟨by omega, e.2⟩]
    · rw [if_neg e, if_neg (fun e' => e ⟨by omega, e'.2⟩)]), h.b.setCell (by unfold ibk; simp; omega) _⟩

/-- Derives' answer -/
def DPost (g : Gr) (s : List Int) (w : World) (e : Ending) (w' : World) : Prop :=
  ∃ B T, e = .returned (.slice (some ⟨B, 0, none⟩) g.nonterms.length g.nonterms.length) ∧ Tab w' B g.nonterms.length s.length T ∧ w.heap.size ≤ B ∧ Below w.heap.size w w' ∧
    ∀ a i k, i ≤ k → k ≤ s.length → (T a i k = true ↔ Der g.rules s a i k)

set_option maxHeartbeats 4000000 in
set_option maxRecDepth 100000 in
theorem derives (g : Gr) (s : List Int) (w : World) (As : Option Addr) (cs : Nat)
    (At : Option Addr) (ct : Nat) (An : Option Addr) (cn : Nat) (Ar : Option Addr) (cr : Nat) (hg : GrC w At ct An cn Ar cr g) (hs : Kd.C (Kd.int .i64) w As s.length s) (hcs : s.length ≤ cs)
    (hr : ∀ r ∈ g.rules, RulOk g.nonterms.length r) (hn : g.nonterms.length ≤ 120) (hL : s.length ≤ 1000) :
    Calls Try.prog 15 #[.agg #[.slice At g.terms.length ct, .slice An g.nonterms.length cn, .int .i64 g.start, .slice Ar g.rules.length cr], .slice As s.length cs] w
      (DPost g s w) := by
  have HR := Aside0.mk hr
  have hm : g.rules.length ≤ 9223372036854775807 := hg.rules.2.1
  obtain ⟨W0, hW0⟩ : ∃ W0, w.alloc (.cells #[.slice At g.terms.length ct, .slice An g.nonterms.length cn, .int .i64 g.start, .slice Ar g.rules.length cr] 25) = W0 := ⟨_, rfl⟩
  obtain ⟨GB, hGB⟩ : ∃ GB : Array Value, GB = #[.slice At g.terms.length ct, .slice An g.nonterms.length cn, .int .i64 g.start, .slice Ar g.rules.length cr] := ⟨_, rfl⟩
  have HZ0 := Aside0.mk (show W0.heap[w.heap.size]? = some (.cells GB 25 (0, 0)) by rw [← hW0, hGB]; exact blk_new _ _)
  have hB0 : Below w.heap.size w W0 := by rw [← hW0]; exact (Below.refl _ _).alloc (Nat.le_refl _) _
  have HB0 := Aside0.mk hB0
  have HG := Aside0.mk (hg.below hB0)
  have HSC := Aside0.mk (Kd.C_below hs hB0)
  have HCS := Aside0.mk hcs
  have HWl := Aside0.mk (blk_lt HZ0.out)
  have K3 := Aside0.mk (show ∀ cur : World, cur.heap[w.heap.size]? = some (.cells GB 25 (0, 0)) → cur.cell? ⟨w.heap.size, 1, none⟩ = some (.slice An g.nonterms.length cn) ∧ cur.cell? ⟨w.heap.size, 3, none⟩ = some (.slice Ar g.rules.length cr) from fun cur h => by
    rw [hGB] at h; exact ⟨(blk_cell h 1).trans rfl, (blk_cell h 3).trans rfl⟩)
  obtain ⟨c1, c3⟩ := K3.out W0 HZ0.out
  clear hg hs hcs hr hB0 hGB
  go_enter Try.func15, Try.ntmps15
  go_wp2_with fail
  clear hW0 c1 c3
  refine (table g.nonterms.length s.length W0 (by omega) (by omega)).mono ?_
  rintro e w1 ⟨rfl, ht1, hb1⟩
  have HM0 := Aside0.mk (show DM w W0 w1 GB g.nonterms.length s.length (fun _ _ _ => false) from ⟨blk_below HZ0.out hb1, ht1, hb1⟩)
  have HS0 := Aside0.mk (show Sound g.rules s (fun _ _ _ => false) from fun a i k _ _ h => by cases h)
  clear ht1 hb1
  go_wp2_with fail
  go_loopg [6] (2 * fcount g.nonterms.length s.length (fun _ _ _ => false) + 2) (fun kq v6 wr => ∃ (mo : Bool) (T : Int → Nat → Nat → Bool), v6 = .bool mo ∧ Aside0 (2 * fcount g.nonterms.length s.length T + (if mo then 1 else 0) < kq) ∧ Aside0 (mo = false → ∀ r ∈ g.rules, ∀ i k, i ≤ k → k ≤ s.length → Chk T s r i k) ∧ Aside0 (Sound g.rules s T) ∧ Aside0 (DM w W0 wr GB g.nonterms.length s.length T))
  case atStart => exact ⟨true, _, rfl, ⟨by simp⟩, ⟨fun h => by cases h⟩, HS0, HM0⟩
  case round =>
    clear HM0 HS0
    obtain ⟨mo, T0, rfl, HQ, HCl, HSo, HM⟩ := hrel
    obtain ⟨wo, rfl⟩ : ∃ wo : World, wo = wr := ⟨_, rfl⟩
    cases mo with
    | false =>
      have HI := Aside0.mk (table_iff (rs := g.rules) (s := s) HSo.out (HCl.out rfl))
      go_wp2_with fail
      go_ret
      exact ⟨_, T0, by rfl, HM.out.t, HB0.out.size, HB0.out.trans (HM.out.b.mono HB0.out.size), HI.out⟩
    | true =>
      clear HCl
      have HQ1 := Aside0.mk (show 2 * fcount g.nonterms.length s.length T0 + 1 < gk from HQ.out)
      clear HQ
      go_wp2_with fail
      go_loopw [6, 7] (fun v6 v7 wr => ∃ (mo : Bool) (r : Nat) (T : Int → Nat → Nat → Bool), v6 = .bool mo ∧ v7 = .int .i64 r ∧ r ≤ g.rules.length ∧ Aside0 (mo = false → T = T0 ∧ ∀ j : Nat, j < r → ∀ i k, i ≤ k → k ≤ s.length → Chk T0 s (rdOf Rul.zero g.rules j) i k) ∧ Aside0 (mo = true → fcount g.nonterms.length s.length T < fcount g.nonterms.length s.length T0) ∧ Aside0 (Sound g.rules s T) ∧ Aside0 (DM w W0 wr GB g.nonterms.length s.length T)) (fun _ v7 _ => g.rules.length - (intOf v7).toNat)
      case atStart => exact ⟨false, 0, T0, rfl, rfl, by omega, ⟨fun _ => ⟨rfl, fun j hj => absurd hj (by omega)⟩⟩, ⟨fun h => by cases h⟩, HSo, HM⟩
      case round =>
        clear HSo HM
        obtain ⟨mo, r, T, rfl, rfl, hrl, HPr, HF, HSo, HM⟩ := hrel
        obtain ⟨wp, rfl⟩ : ∃ wp : World, wp = wr := ⟨_, rfl⟩
        obtain ⟨c1, c3⟩ := K3.out wp HM.out.z
        by_cases hlt : r < g.rules.length
        · obtain ⟨ad, A1, b1, e, h1, h2, h3, hl, hc⟩ := at_rul HG.out.rules r hlt
          have HMem := Aside0.mk (rdOf_mem Rul.zero g.rules r hlt)
          have hd1 : decide ((r : Int) < (g.rules.length : Int)) = true := decide_eq_true (by omega)
          have q1 : (r : Int) < (g.rules.length : Int) := by omega
          have HC := Aside0.mk hc
          have HLc := Aside0.mk hl
          have hro := HR.out _ HMem.out
          clear hc hl h3
          cases e
          generalize hrx : rdOf Rul.zero g.rules r = rx at *
          have HRX := Aside0.mk hrx
          clear hrx
          have K1 := Aside0.mk (fun (cur : World) (hb : Below W0.heap.size W0 cur) => (hb.cell (World.block_lt_of_cell? W0 _ h1)).trans h1)
          have K2 := Aside0.mk (fun (cur : World) (hb : Below W0.heap.size W0 cur) => (hb.cell (World.block_lt_of_cell? W0 _ h2)).trans h2)
          clear h1 h2
          have h1 := K1.out wp HM.out.b
          have hh0 := hro.1
          have hh1 := hro.2.1
          have HRO := Aside0.mk hro
          clear hro
          go_wp2_with fail
          clear c1 c3 h1
          go_loopw [6, 9] (fun v6 v9 wr => ∃ (mo : Bool) (i : Nat) (T : Int → Nat → Nat → Bool), v6 = .bool mo ∧ v9 = .int .i64 i ∧ i ≤ s.length + 1 ∧ Aside0 (mo = false → T = T0 ∧ (∀ j : Nat, j < r → ∀ i k, i ≤ k → k ≤ s.length → Chk T0 s (rdOf Rul.zero g.rules j) i k) ∧ ∀ i', i' < i → ∀ k, i' ≤ k → k ≤ s.length → Chk T0 s rx i' k) ∧ Aside0 (mo = true → fcount g.nonterms.length s.length T < fcount g.nonterms.length s.length T0) ∧ Aside0 (Sound g.rules s T) ∧ Aside0 (DM w W0 wr GB g.nonterms.length s.length T)) (fun _ v9 _ => s.length + 1 - (intOf v9).toNat)
          case atStart => exact ⟨mo, 0, T, rfl, rfl, by omega, ⟨fun h => ⟨(HPr.out h).1, (HPr.out h).2, fun i' hi => absurd hi (by omega)⟩⟩, HF, HSo, HM⟩
          case round =>
            clear HSo HM HPr HF
            obtain ⟨mo, i, T, rfl, rfl, hi, HPr, HF, HSo, HM⟩ := hrel
            obtain ⟨wq, rfl⟩ : ∃ wq : World, wq = wr := ⟨_, rfl⟩
            by_cases hlti : i ≤ s.length
            · have hd2 : decide ((i : Int) ≤ (s.length : Int)) = true := decide_eq_true (by omega)
              go_wp2_with fail
              go_loopw [6, 10] (fun v6 v10 wr => ∃ (mo : Bool) (k : Nat) (T : Int → Nat → Nat → Bool), v6 = .bool mo ∧ v10 = .int .i64 k ∧ i ≤ k ∧ k ≤ s.length + 1 ∧ Aside0 (mo = false → T = T0 ∧ (∀ j : Nat, j < r → ∀ i k, i ≤ k → k ≤ s.length → Chk T0 s (rdOf Rul.zero g.rules j) i k) ∧ (∀ i', i' < i → ∀ k, i' ≤ k → k ≤ s.length → Chk T0 s rx i' k) ∧ ∀ k', k' < k → i ≤ k' → Chk T0 s rx i k') ∧ Aside0 (mo = true → fcount g.nonterms.length s.length T < fcount g.nonterms.length s.length T0) ∧ Aside0 (Sound g.rules s T) ∧ Aside0 (DM w W0 wr GB g.nonterms.length s.length T)) (fun _ v10 _ => s.length + 1 - (intOf v10).toNat)
              case atStart => exact ⟨mo, i, T, rfl, rfl, Nat.le_refl _, by omega, ⟨fun h => ⟨(HPr.out h).1, (HPr.out h).2.1, (HPr.out h).2.2, fun k' h1 h2 => absurd h1 (by omega)⟩⟩, HF, HSo, HM⟩
              case round =>
                clear HSo HM HPr HF
                obtain ⟨mo, k, T, rfl, rfl, hik, hk, HPr, HF, HSo, HM⟩ := hrel
                obtain ⟨wk, rfl⟩ : ∃ wk : World, wk = wr := ⟨_, rfl⟩
                by_cases hltk : k ≤ s.length
                · have hd3 : decide ((k : Int) ≤ (s.length : Int)) = true := decide_eq_true (by omega)
                  obtain ⟨c1, c3⟩ := K3.out wk HM.out.z
                  have h2 := K2.out wk HM.out.b
                  have hat := HM.out.t.at (a := rx.head.toNat) (q := i) (j := k) (by omega) hlti hltk
                  rw [show ((rx.head.toNat : Nat) : Int) = rx.head by omega] at hat
                  obtain ⟨t1, t2, t3, t4⟩ := hat
                  have q2 : (i : Int) < (s.length : Int) + 1 := by omega
                  have q3 : (k : Int) < (s.length : Int) + 1 := by omega
                  cases hz : T rx.head i k with
                  | true =>
                    rw [hz] at t3
                    have HPr2 := Aside0.mk (show mo = false → T = T0 ∧ (∀ j : Nat, j < r → ∀ i k, i ≤ k → k ≤ s.length → Chk T0 s (rdOf Rul.zero g.rules j) i k) ∧ (∀ i', i' < i → ∀ k, i' ≤ k → k ≤ s.length → Chk T0 s rx i' k) ∧ ∀ k', k' < k + 1 → i ≤ k' → Chk T0 s rx i k' from fun h => ⟨(HPr.out h).1, (HPr.out h).2.1, (HPr.out h).2.2.1, fun k' h1 h2 => by
                      rcases Nat.lt_succ_iff_lt_or_eq.1 h1 with h' | rfl
                      · exact (HPr.out h).2.2.2 k' h' h2
                      · intro _; rw [← (HPr.out h).1]; exact hz⟩)
                    clear hz HPr
                    go_wp2_with fail
                    go_roundw
                    case rel => exact ⟨mo, k + 1, T, rfl, by simp, by omega, by omega, HPr2, HF, HSo, HM⟩
                    case measure => simp [intOf]; omega
                  | false =>
                    rw [hz] at t3
                    have HZ := Aside0.mk hz
                    clear hz
                    have HBd := Aside0.mk (body T s As cs g.nonterms.length W0.heap.size (by omega) (by omega) rx.body A1 b1 i k wk HM.out.t (Kd.C_below HSC.out HM.out.b) HCS.out (Kd.C_below HC.out HM.out.b) HLc.out (fun x hx hneg => by have := HRO.out.2.2 x hx hneg; omega) hik hltk)
                    go_wp2_with fail
                    refine HBd.out.mono ?_
                    rintro e w' ⟨rfl, ⟨m', rfl⟩⟩
                    have HM2 := Aside0.mk (HM.out.drewN m')
                    cases hb : bodyB T s rx.body i k with
                    | false =>
                      have HPr2 := Aside0.mk (show mo = false → T = T0 ∧ (∀ j : Nat, j < r → ∀ i k, i ≤ k → k ≤ s.length → Chk T0 s (rdOf Rul.zero g.rules j) i k) ∧ (∀ i', i' < i → ∀ k, i' ≤ k → k ≤ s.length → Chk T0 s rx i' k) ∧ ∀ k', k' < k + 1 → i ≤ k' → Chk T0 s rx i k' from fun h => ⟨(HPr.out h).1, (HPr.out h).2.1, (HPr.out h).2.2.1, fun k' h1 h2 => by
                        rcases Nat.lt_succ_iff_lt_or_eq.1 h1 with h' | rfl
                        · exact (HPr.out h).2.2.2 k' h' h2
                        · intro hb'; rw [← (HPr.out h).1, hb] at hb'; cases hb'⟩)
                      clear hb HPr HM HBd
                      go_wp2_with fail
                      go_roundw
                      case rel => exact ⟨mo, k + 1, T, rfl, by simp, by omega, by omega, HPr2, HF, HSo, HM2⟩
                      case measure => simp [intOf]; omega
                    | true =>
                      have HSo2 := Aside0.mk (HSo.out.upd HMem.out hik hltk hb)
                      have HF2 := Aside0.mk (show fcount g.nonterms.length s.length (upd T rx.head i k) < fcount g.nonterms.length s.length T0 by
                        have h' := fcount_upd (n := g.nonterms.length) (L := s.length) hh0 hh1 hlti hltk HZ.out
                        cases mo with
                        | true => exact Nat.lt_trans h' (HF.out rfl)
                        | false => rw [(HPr.out rfl).1] at h' ⊢; exact h')
                      have HM3 := Aside0.mk (HM2.out.put HWl.out hh0 hh1 hlti (k := k))
                      clear hb HPr HM HBd HF HSo HM2
                      go_wp2_with fail
                      go_roundw
                      case rel => exact ⟨true, k + 1, _, rfl, by simp, by omega, by omega, ⟨fun h => by cases h⟩, ⟨fun _ => HF2.out⟩, HSo2, HM3⟩
                      case measure => simp [intOf]; omega
                · obtain rfl : k = s.length + 1 := by omega
                  have hd3 : decide ((((s.length + 1 : Nat)) : Int) ≤ (s.length : Int)) = false := decide_eq_false (by omega)
                  have hd3' : decide ((s.length : Int) + 1 ≤ (s.length : Int)) = false := decide_eq_false (by omega)
                  have HPr2 := Aside0.mk (show mo = false → T = T0 ∧ (∀ j : Nat, j < r → ∀ i k, i ≤ k → k ≤ s.length → Chk T0 s (rdOf Rul.zero g.rules j) i k) ∧ ∀ i', i' < i + 1 → ∀ k, i' ≤ k → k ≤ s.length → Chk T0 s rx i' k from fun h => ⟨(HPr.out h).1, (HPr.out h).2.1, fun i' h1 k h2 h3 => by
                    rcases Nat.lt_succ_iff_lt_or_eq.1 h1 with h' | rfl
                    · exact (HPr.out h).2.2.1 i' h' k h2 h3
                    · exact (HPr.out h).2.2.2 k (by omega) h2⟩)
                  clear HPr
                  go_wp2_with fail
                  go_roundw
                  case rel => exact ⟨mo, i + 1, T, rfl, by simp, by omega, HPr2, HF, HSo, HM⟩
                  case measure => simp [intOf]; omega
            · obtain rfl : i = s.length + 1 := by omega
              have hd2 : decide ((((s.length + 1 : Nat)) : Int) ≤ (s.length : Int)) = false := decide_eq_false (by omega)
              have hd2' : decide ((s.length : Int) + 1 ≤ (s.length : Int)) = false := decide_eq_false (by omega)
              have HPr2 := Aside0.mk (show mo = false → T = T0 ∧ ∀ j : Nat, j < r + 1 → ∀ i k, i ≤ k → k ≤ s.length → Chk T0 s (rdOf Rul.zero g.rules j) i k from fun h => ⟨(HPr.out h).1, fun j h1 i k h2 h3 => by
                rcases Nat.lt_succ_iff_lt_or_eq.1 h1 with h' | rfl
                · exact (HPr.out h).2.1 j h' i k h2 h3
                · rw [HRX.out]; exact (HPr.out h).2.2 i (by omega) k h2 h3⟩)
              clear HPr
              go_wp2_with fail
              go_roundw
              case rel => exact ⟨mo, r + 1, T, rfl, by simp, by omega, HPr2, HF, HSo, HM⟩
              case measure => simp [intOf]; omega
        · obtain rfl : r = g.rules.length := by omega
          have HQ2 := Aside0.mk (show 2 * fcount g.nonterms.length s.length T + (if mo then 1 else 0) < 2 * fcount g.nonterms.length s.length T0 + 1 by
            cases mo with
            | true => have := HF.out rfl; simp; omega
            | false => rw [(HPr.out rfl).1]; simp)
          have HCl2 := Aside0.mk (show mo = false → ∀ r ∈ g.rules, ∀ i k, i ≤ k → k ≤ s.length → Chk T s r i k from fun h r hr i k h1 h2 => by
            obtain ⟨j, hj, rfl⟩ := List.getElem_of_mem hr
            have := (HPr.out h).2 j hj i k h1 h2
            rw [rdOf_nat Rul.zero g.rules j hj] at this
            rw [(HPr.out h).1]; exact this)
          clear HPr HF
          go_wp2_with fail
          go_roundg (2 * fcount g.nonterms.length s.length T0 + 1)
          case measure => exact HQ1.out
          case rel => exact ⟨mo, T, rfl, HQ2, HCl2, HSo, HM⟩
end Go.Proofs.Ytadednkdhblpfaa.Tb
