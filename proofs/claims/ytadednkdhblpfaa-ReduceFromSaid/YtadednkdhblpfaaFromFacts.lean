/- What ReduceFrom asks of the reduced grammar and its indices. No program in sight. -/
import Derived.Test.YtadednkdhblpfaaPlain
namespace Go.Proofs.Ytadednkdhblpfaa.Law
open Go.RowKit Go.Proofs.YtadednkdhblpfaaW.PrintWords Go.Proofs.Ytadednkdhblpfaa.B Go.Proofs.Ytadednkdhblpfaa.Val Go.Proofs.Ytadednkdhblpfaa.Ana Go.Proofs.Ytadednkdhblpfaa.Red
set_option linter.unusedVariables false
set_option linter.unusedSimpArgs false
set_option linter.unusedSectionVars false

/-- a rule of the reduced grammar and the one that it came from -/
structure RulRel (g r : Gr) (a b : Rul) : Prop where
  price : a.price = b.price
  ha : 0 ≤ a.head ∧ a.head < r.nonterms.length
  hb : 0 ≤ b.head ∧ b.head < g.nonterms.length
  head : rdOf ByteArray.empty r.nonterms a.head = rdOf ByteArray.empty g.nonterms b.head
  len : a.body.length = b.body.length
  sym : ∀ q : Nat, q < a.body.length → (0 ≤ rd a.body q ∧ rd b.body q = rd a.body q) ∨
    (rd a.body q < 0 ∧ rd b.body q < 0 ∧ (0 ≤ -1 - rd a.body q ∧ -1 - rd a.body q < r.nonterms.length) ∧ (0 ≤ -1 - rd b.body q ∧ -1 - rd b.body q < g.nonterms.length) ∧
      rdOf ByteArray.empty r.nonterms (-1 - rd a.body q) = rdOf ByteArray.empty g.nonterms (-1 - rd b.body q))
structure FromOk (g r : Gr) (fr : List Int) : Prop where
  len : fr.length = r.rules.length
  valid : validB r = true
  rs : 0 ≤ r.start ∧ r.start < r.nonterms.length
  gs : 0 ≤ g.start ∧ g.start < g.nonterms.length
  start : rdOf ByteArray.empty r.nonterms r.start = rdOf ByteArray.empty g.nonterms g.start
  bd : ∀ k : Nat, k < fr.length → 0 ≤ rd fr k ∧ rd fr k < g.rules.length
  inc : ∀ k : Nat, k + 1 < fr.length → rd fr k < rd fr ((k + 1 : Nat) : Int)
  rul : ∀ k : Nat, k < fr.length → RulRel g r (rdOf Rul.zero r.rules k) (rdOf Rul.zero g.rules (rd fr k))

theorem Ok.name {g : Gr} (h : Ok g) {i : Int} (hu : UP g (prL g) i) : rdOf ByteArray.empty (rG g).nonterms (numIn (NL g) i) = rdOf ByteArray.empty g.nonterms i := by
  obtain ⟨k, rfl, hk⟩ := h.mem hu
  have hb := h.num_bd hu
  have hg := get_numIn hk
  obtain ⟨n, hn⟩ := nat_of hb.1
  rw [hn] at hg hb ⊢
  rw [Int.toNat_natCast] at hg
  have hl : n < (NL g).length := by omega
  have e : (rG g).nonterms = (NL g).map (fun i : Nat => rdOf ByteArray.empty g.nonterms (i : Int)) := rfl
  rw [rdOf_nat _ _ _ (by rw [e, List.length_map]; exact hl)]
  simp only [e, List.getElem_map]
  rw [List.getElem?_eq_getElem hl] at hg
  injection hg with hg
  rw [hg]

theorem Ok.rel {g : Gr} (h : Ok g) {b : Rul} (hk : Kept g b) : RulRel g (rG g) (renRul (NL g) b) b := by
  have h1 := h.facts.1 b hk.1
  have h2 := (h.rul b hk).2
  have hl : (renRul (NL g) b).body.length = b.body.length := by show (b.body.map (renSym (NL g))).length = _; rw [List.length_map]
  refine ⟨rfl, ⟨h2.1, h2.2.1⟩, ⟨h1.1, h1.2.1⟩, h.name hk.2.1, hl, fun q hq => ?_⟩
  have hq2 : q < b.body.length := by omega
  have e : rd (renRul (NL g) b).body (q : Int) = renSym (NL g) (rd b.body (q : Int)) := by
    rw [rd_nat _ _ hq, rd_nat _ _ hq2]
    show (b.body.map (renSym (NL g)))[q]'(by simpa using hq2) = _
    rw [List.getElem_map]
  have hm := rd_mem b.body q hq2
  rw [e]
  generalize rd b.body (q : Int) = x at *
  unfold renSym
  by_cases hn : x < 0
  · rw [if_pos hn]
    have hu := hk.sym hm hn
    have hb := h.num_bd hu
    have hr := h1.2.2 x hm hn
    have hlen := h.len
    have hnm := h.name hu
    refine .inr ⟨by omega, hn, by omega, by omega, ?_⟩
    rw [show -1 - (-1 - numIn (NL g) (-1 - x)) = numIn (NL g) (-1 - x) by omega]
    exact hnm
  · rw [if_neg hn]; exact .inl ⟨by omega, rfl⟩

theorem Ok.from_ {g : Gr} (h : Ok g) : FromOk g (rG g) ((keptIdx (prL g) (useL g) g.rules g.rules.length).map (fun j : Nat => (j : Int))) := by
  have hst := h.num_bd start_up
  have hK : ∀ k : Nat, k < (keptIdx (prL g) (useL g) g.rules g.rules.length).length → True := fun _ _ => trivial
  have hl : (rG g).rules.length = (keptIdx (prL g) (useL g) g.rules g.rules.length).length := by
    show (List.map _ (keptIdx (prL g) (useL g) g.rules g.rules.length)).length = _
    rw [List.length_map]
  have hrd : ∀ k : Nat, (hk : k < (keptIdx (prL g) (useL g) g.rules g.rules.length).length) → rd ((keptIdx (prL g) (useL g) g.rules g.rules.length).map (fun j : Nat => (j : Int))) k = (((keptIdx (prL g) (useL g) g.rules g.rules.length)[k] : Nat) : Int) := by
    intro k hk
    rw [rd_nat _ _ (by rw [List.length_map]; exact hk), List.getElem_map]
  refine ⟨by rw [List.length_map, hl], h.valid, ⟨hst.1, by rw [h.len]; exact hst.2⟩, h.facts.2.1, h.name start_up, fun k hk => ?_, fun k hk => ?_, fun k hk => ?_⟩
  · rw [List.length_map] at hk
    rw [hrd k hk]
    have := ((h.mem_kept _).1 (List.getElem_mem hk)).1
    omega
  · rw [List.length_map] at hk
    rw [hrd k (by omega), hrd (k + 1) hk]
    have hp : (keptIdx (prL g) (useL g) g.rules g.rules.length).Pairwise (· < ·) := by
      unfold keptIdx; exact List.Pairwise.filter _ List.pairwise_lt_range
    have := List.pairwise_iff_getElem.1 hp k (k + 1) (by omega) hk (by omega)
    omega
  · rw [List.length_map] at hk
    rw [hrd k hk]
    have hm := ((h.mem_kept _).1 (List.getElem_mem hk)).2
    have e : rdOf Rul.zero (rG g).rules (k : Int) = renRul (NL g) (rdOf Rul.zero g.rules (((keptIdx (prL g) (useL g) g.rules g.rules.length)[k] : Nat) : Int)) := by
      rw [rdOf_nat _ _ _ (by rw [hl]; exact hk)]
      show (List.map _ (keptIdx (prL g) (useL g) g.rules g.rules.length))[k]'(by rw [List.length_map]; exact hk) = _
      rw [List.getElem_map]; rfl
    rw [e]
    exact h.rel hm
end Go.Proofs.Ytadednkdhblpfaa.Law
