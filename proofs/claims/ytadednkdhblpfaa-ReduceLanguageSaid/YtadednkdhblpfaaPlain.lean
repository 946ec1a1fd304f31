/- The reduced grammar: valid, all productive, all useful; reducing it leaves it. No program in sight. -/
import Derived.Test.YtadednkdhblpfaaRedSpec
import Derived.Test.YtadednkdhblpfaaReduce
namespace Go.Proofs.Ytadednkdhblpfaa.Law
open Go.RowKit Go.Proofs.YtadednkdhblpfaaW.PrintWords Go.Proofs.Ytadednkdhblpfaa.B Go.Proofs.Ytadednkdhblpfaa.Val Go.Proofs.Ytadednkdhblpfaa.Ana Go.Proofs.Ytadednkdhblpfaa.Red
set_option linter.unusedVariables false
set_option linter.unusedSimpArgs false
set_option linter.unusedSectionVars false

noncomputable def NL (g : Gr) : List Nat := useIdx (useL g) g.nonterms.length
noncomputable def rG (g : Gr) : Gr := redG g (prL g) (useL g)
/-- a valid grammar with a productive start -/
structure Ok (g : Gr) : Prop where
  v : validB g = true
  p : rdOf false (prL g) g.start = true

theorem nat_of {i : Int} (h : 0 ≤ i) : ∃ k : Nat, i = k := ⟨i.toNat, by omega⟩
theorem pr_iff (g : Gr) {i : Int} (h0 : 0 ≤ i) (h1 : i < g.nonterms.length) : rdOf false (prL g) i = true ↔ HP g.rules true i := by
  obtain ⟨k, rfl⟩ := nat_of h0
  rw [prL, rd_map_range _ _ k (by omega)]; simp
theorem us_iff (g : Gr) {i : Int} (h0 : 0 ≤ i) (h1 : i < g.nonterms.length) : rdOf false (useL g) i = true ↔ UP g (prL g) i := by
  obtain ⟨k, rfl⟩ := nat_of h0
  rw [useL, rd_map_range _ _ k (by omega)]; simp
theorem mem_useIdx (us : List Bool) (n k : Nat) : k ∈ useIdx us n ↔ k < n ∧ rdOf false us (k : Int) = true := by
  unfold useIdx; rw [List.mem_filter, List.mem_range]
theorem mem_NL (g : Gr) (k : Nat) : k ∈ NL g ↔ k < g.nonterms.length ∧ UP g (prL g) k := by
  unfold NL; rw [mem_useIdx]
  constructor
  · rintro ⟨h, k⟩; exact ⟨h, (us_iff g (by omega) (by omega)).1 k⟩
  · rintro ⟨h, k⟩; exact ⟨h, (us_iff g (by omega) (by omega)).2 k⟩
theorem nodup_useIdx (us : List Bool) (n : Nat) : (useIdx us n).Nodup := by
  unfold useIdx; exact List.Pairwise.filter _ List.nodup_range
theorem numIn_mem {l : List Nat} {k : Nat} (h : k ∈ l) : numIn l (k : Int) = (l.idxOf k : Int) := by
  unfold numIn; rw [if_pos ⟨by simpa using h, by omega⟩]; simp
theorem nodup_inj {α : Type} {l : List α} (h : l.Nodup) {i j : Nat} (hi : i < l.length) (hj : j < l.length) (e : l[i] = l[j]) : i = j := by
  rcases Nat.lt_trichotomy i j with hlt | heq | hgt
  · exact absurd e (List.pairwise_iff_getElem.1 h i j hi hj hlt)
  · exact heq
  · exact absurd e.symm (List.pairwise_iff_getElem.1 h j i hj hi hgt)
theorem numIn_lt {l : List Nat} {k : Nat} (h : k ∈ l) : numIn l (k : Int) < l.length := by
  rw [numIn_mem h]; have := List.idxOf_lt_length_of_mem h; omega
theorem numIn_ge (l : List Nat) (i : Int) : 0 ≤ numIn l i := (numIn_bd l i).1
theorem get_numIn {l : List Nat} {k : Nat} (h : k ∈ l) : l[(numIn l (k : Int)).toNat]? = some k := by
  rw [numIn_mem h, Int.toNat_natCast]; exact List.getElem?_eq_some_iff.2 ⟨List.idxOf_lt_length_of_mem h, List.getElem_idxOf _⟩
theorem numIn_inj {l : List Nat} {i j : Nat} (hi : i ∈ l) (hj : j ∈ l) (h : numIn l (i : Int) = numIn l (j : Int)) : i = j := by
  have h1 := get_numIn hi
  have h2 := get_numIn hj
  rw [h, h2] at h1
  injection h1 with h1
  exact h1.symm
theorem numIn_range (n k : Nat) (h : k < n) : numIn (List.range n) (k : Int) = k := by
  have hm : k ∈ List.range n := by simpa using h
  have h1 := get_numIn hm
  have h2 := numIn_lt hm
  have h3 := numIn_ge (List.range n) (k : Int)
  simp at h2
  rw [List.getElem?_range (by omega)] at h1
  injection h1 with h1
  omega

section
variable {g : Gr} (h : Ok g)
include h
theorem Ok.facts : (∀ r ∈ g.rules, RulOk g.nonterms.length r) ∧ (0 ≤ g.start ∧ g.start < g.nonterms.length) ∧ 1 ≤ g.nonterms.length ∧ g.nonterms.length ≤ 120 ∧ g.rules.length ≤ 120 ∧ g.terms.length ≤ 120 ∧ (∀ r ∈ g.rules, r.body.length ≤ 12) ∧ (∀ r ∈ g.rules, ∀ x ∈ r.body, x < g.terms.length) := rulOk_of_valid h.v
theorem Ok.up_range {i : Int} (hu : UP g (prL g) i) : 0 ≤ i ∧ i < g.nonterms.length := by
  cases hu with
  | start => exact h.facts.2.1
  | step r hr _ _ x hx hn => have := (h.facts.1 r hr).2.2 x hx hn; omega
theorem Ok.works_iff {r : Rul} (hr : r ∈ g.rules) : worksB (prL g) r.body = true ↔ ∀ x ∈ r.body, x < 0 → HP g.rules true (-1 - x) := by
  unfold worksB dead
  rw [Bool.not_eq_true', List.any_eq_false]
  constructor
  · intro hb x hx hn
    have := hb x hx
    rw [decide_eq_true hn] at this
    have h2 := (h.facts.1 r hr).2.2 x hx hn
    exact (pr_iff g (by omega) (by omega)).1 (by simpa using this)
  · intro hb x hx
    by_cases hn : x < 0
    · have h2 := (h.facts.1 r hr).2.2 x hx hn
      have := (pr_iff g (i := -1 - x) (by omega) (by omega)).2 (hb x hx hn)
      rw [this]; simp
    · rw [decide_eq_false hn]; simp
theorem Ok.up_hp {i : Int} (hu : UP g (prL g) i) : HP g.rules true i := by
  cases hu with
  | start => exact (pr_iff g h.facts.2.1.1 h.facts.2.1.2).1 h.p
  | step r hr _ hw x hx hn => exact (h.works_iff hr).1 hw x hx hn
/-- the number of a useful nonterminal -/
theorem Ok.mem {i : Int} (hu : UP g (prL g) i) : ∃ k : Nat, i = k ∧ k ∈ NL g := by
  obtain ⟨h0, h1⟩ := h.up_range hu
  obtain ⟨k, rfl⟩ := nat_of h0
  exact ⟨k, rfl, (mem_NL g k).2 ⟨by omega, hu⟩⟩
theorem Ok.num_bd {i : Int} (hu : UP g (prL g) i) : 0 ≤ numIn (NL g) i ∧ numIn (NL g) i < (NL g).length := by
  obtain ⟨k, rfl, hk⟩ := h.mem hu
  exact ⟨numIn_ge _ _, numIn_lt hk⟩
theorem Ok.num_inj {i j : Int} (hi : UP g (prL g) i) (hj : UP g (prL g) j) (e : numIn (NL g) i = numIn (NL g) j) : i = j := by
  obtain ⟨a, rfl, ha⟩ := h.mem hi
  obtain ⟨b, rfl, hb⟩ := h.mem hj
  rw [numIn_inj ha hb e]
/-- a kept rule -/
def Kept (g : Gr) (r : Rul) : Prop := r ∈ g.rules ∧ UP g (prL g) r.head ∧ worksB (prL g) r.body = true
omit h in
theorem Kept.sym {r : Rul} (hk : Kept g r) {x : Int} (hx : x ∈ r.body) (hn : x < 0) : UP g (prL g) (-1 - x) := UP.step r hk.1 hk.2.1 hk.2.2 x hx hn
theorem Ok.keeps_iff {r : Rul} (hr : r ∈ g.rules) : keeps (prL g) (useL g) r = true ↔ Kept g r := by
  unfold keeps Kept
  have h1 := h.facts.1 r hr
  rw [Bool.and_eq_true, us_iff g h1.1 h1.2.1]
  exact ⟨fun ⟨a, b⟩ => ⟨hr, a, b⟩, fun ⟨_, a, b⟩ => ⟨a, b⟩⟩
theorem Ok.mem_kept (j : Nat) : j ∈ keptIdx (prL g) (useL g) g.rules g.rules.length ↔ j < g.rules.length ∧ Kept g (rdOf Rul.zero g.rules (j : Int)) := by
  unfold keptIdx; rw [List.mem_filter, List.mem_range]
  constructor
  · rintro ⟨a, b⟩; exact ⟨a, (h.keeps_iff (rdOf_mem _ _ j a)).1 b⟩
  · rintro ⟨a, b⟩; exact ⟨a, (h.keeps_iff (rdOf_mem _ _ j a)).2 b⟩
theorem Ok.mem_rules (r' : Rul) : r' ∈ (rG g).rules ↔ ∃ r, Kept g r ∧ r' = renRul (NL g) r := by
  unfold rG redG
  simp only [List.mem_map]
  constructor
  · rintro ⟨j, hj, rfl⟩
    exact ⟨_, ((h.mem_kept j).1 hj).2, rfl⟩
  · rintro ⟨r, hk, rfl⟩
    obtain ⟨j, hj, e⟩ := List.getElem_of_mem hk.1
    refine ⟨j, (h.mem_kept j).2 ⟨hj, ?_⟩, ?_⟩
    · rw [rdOf_nat _ _ _ hj, e]; exact hk
    · rw [rdOf_nat _ _ _ hj, e]; rfl
omit h in
theorem start_up : UP g (prL g) g.start := UP.start
/-- the kept nonterminals stay productive -/
theorem Ok.hp_red {i : Int} (hp : HP g.rules true i) : UP g (prL g) i → HP (rG g).rules true (numIn (NL g) i) := by
  induction hp with
  | mk r hr hb ht ih =>
    intro hu
    have hk : Kept g r := ⟨hr, hu, (h.works_iff hr).2 hb⟩
    refine HP.mk (renRul (NL g) r) ((h.mem_rules _).2 ⟨r, hk, rfl⟩) (fun y hy hn => ?_) (fun _ _ _ => rfl)
    obtain ⟨x, hx, rfl⟩ := List.mem_map.1 hy
    by_cases hx0 : x < 0
    · unfold renSym; rw [if_pos hx0]
      have := ih x hx hx0 (hk.sym hx hx0)
      rwa [show -1 - (-1 - numIn (NL g) (-1 - x)) = numIn (NL g) (-1 - x) by omega]
    · unfold renSym at hn; rw [if_neg hx0] at hn; exact absurd hn hx0
theorem Ok.len : (rG g).nonterms.length = (NL g).length := by unfold rG redG NL; simp
/-- each number of the reduced grammar is that of a useful nonterminal -/
theorem Ok.old {j : Int} (h0 : 0 ≤ j) (h1 : j < (rG g).nonterms.length) : ∃ i, UP g (prL g) i ∧ numIn (NL g) i = j := by
  rw [h.len] at h1
  obtain ⟨k, rfl⟩ := nat_of h0
  have hk : k < (NL g).length := by omega
  have hm : (NL g)[k] ∈ NL g := List.getElem_mem hk
  refine ⟨((NL g)[k] : Nat), ((mem_NL g _).1 hm).2, ?_⟩
  have hb := numIn_lt hm
  have h3 := numIn_ge (NL g) ((NL g)[k] : Nat)
  have h2 := get_numIn hm
  rw [List.getElem?_eq_getElem (by omega)] at h2
  injection h2 with h2
  have := nodup_inj (show (NL g).Nodup from nodup_useIdx _ _) (by omega) hk h2
  omega

/-! The reduced grammar is valid. -/
theorem Ok.names_sub : (rG g).nonterms.Nodup ∧ (∀ s ∈ (rG g).nonterms, s ∈ g.nonterms) := by
  have hn : (g.terms ++ g.nonterms).Nodup := by
    have := h.v
    unfold validB namesOk at this
    simp only [Bool.and_eq_true, decide_eq_true_eq] at this
    exact this.1.1.1.1.1.2.1
  have hn2 : g.nonterms.Nodup := (List.nodup_append.1 hn).2.1
  constructor
  · show ((NL g).map (fun i : Nat => rdOf ByteArray.empty g.nonterms (i : Int))).Nodup
    rw [List.Nodup, List.pairwise_map]
    refine List.Pairwise.imp_of_mem (fun {a b} ha hb hne => ?_) (show (NL g).Nodup from nodup_useIdx _ _)
    have la := ((mem_NL g a).1 ha).1
    have lb := ((mem_NL g b).1 hb).1
    rw [rdOf_nat _ _ _ la, rdOf_nat _ _ _ lb]
    exact fun e => hne (nodup_inj (l := g.nonterms) hn2 la lb e)
  · intro s hs
    obtain ⟨i, hi, rfl⟩ := List.mem_map.1 (show s ∈ (NL g).map (fun i : Nat => rdOf ByteArray.empty g.nonterms (i : Int)) from hs)
    exact rdOf_mem _ _ i ((mem_NL g i).1 hi).1
theorem Ok.rul (r : Rul) (hk : Kept g r) : rulB (rG g).terms.length (rG g).nonterms.length (renRul (NL g) r) = true ∧ RulOk (rG g).nonterms.length (renRul (NL g) r) := by
  have hv := h.v
  unfold validB at hv
  simp only [Bool.and_eq_true, decide_eq_true_eq, List.all_eq_true] at hv
  have hb := hv.2 r hk.1
  unfold rulB at hb
  simp only [Bool.and_eq_true, decide_eq_true_eq, Bool.not_eq_true', List.any_eq_false] at hb
  have hh := h.num_bd hk.2.1
  have hsym : ∀ y ∈ (renRul (NL g) r).body, y < (g.terms.length : Int) ∧ -(((NL g).length : Nat) : Int) ≤ y := by
    intro y hy
    obtain ⟨x, hx, rfl⟩ := List.mem_map.1 hy
    unfold renSym
    by_cases hn : x < 0
    · rw [if_pos hn]
      have := h.num_bd (hk.sym hx hn)
      omega
    · rw [if_neg hn]
      have := hb.2 x hx
      unfold symBad at this
      simp only [Bool.or_eq_true, decide_eq_true_eq, not_or] at this
      omega
  constructor
  · unfold rulB
    simp only [Bool.and_eq_true, decide_eq_true_eq, Bool.not_eq_true', List.any_eq_false]
    rw [h.len]
    refine ⟨⟨⟨⟨⟨hh.1, hh.2⟩, ?_⟩, hb.1.1.2⟩, hb.1.2⟩, fun y hy => ?_⟩
    · show (r.body.map (renSym (NL g))).length ≤ 12
      rw [List.length_map]; exact hb.1.1.1.2
    · have := hsym y hy
      unfold symBad
      rw [decide_eq_false (show ¬ y ≥ ((rG g).terms.length : Int) from by have : (rG g).terms.length = g.terms.length := rfl
                                                                          omega), decide_eq_false (by omega)]
      simp
  · rw [h.len]
    exact ⟨hh.1, hh.2, fun y hy hn => by have := hsym y hy; omega⟩
theorem Ok.kept_one : ∃ r, Kept g r := by
  have hp := (pr_iff g h.facts.2.1.1 h.facts.2.1.2).1 h.p
  have : ∀ i, HP g.rules true i → UP g (prL g) i → ∃ r, Kept g r := by
    intro i hi hu
    cases hi with
    | mk r hr hb ht => exact ⟨r, hr, hu, (h.works_iff hr).2 hb⟩
  exact this _ hp UP.start
theorem Ok.valid : validB (rG g) = true := by
  have hv := h.v
  unfold validB at hv
  simp only [Bool.and_eq_true, decide_eq_true_eq, List.all_eq_true] at hv
  obtain ⟨⟨⟨⟨⟨⟨⟨⟨h1, h2⟩, h3⟩, h4⟩, h5⟩, h6⟩, h7⟩, h8⟩, h9⟩ := hv
  have hs := h.num_bd start_up
  have hnl : (NL g).length ≤ g.nonterms.length := useIdx_le _ _
  have hrl : (rG g).rules.length ≤ g.rules.length := by
    show (List.map _ (keptIdx (prL g) (useL g) g.rules g.rules.length)).length ≤ _
    rw [List.length_map]; exact keptIdx_le _ _ _ _
  obtain ⟨r0, hk0⟩ := h.kept_one
  have hr1 : 1 ≤ (rG g).rules.length := List.length_pos_of_mem ((h.mem_rules _).2 ⟨r0, hk0, rfl⟩)
  have hnames : namesOk ((rG g).terms ++ (rG g).nonterms) = true := by
    unfold namesOk at h4
    simp only [Bool.and_eq_true, decide_eq_true_eq, List.all_eq_true] at h4
    refine namesOk_good ?_ ?_
    · rw [List.nodup_append] at h4 ⊢
      refine ⟨h4.1.1, h.names_sub.1, fun a ha b hb => h4.1.2.2 a ha b (h.names_sub.2 b hb)⟩
    · intro s hs
      rcases List.mem_append.1 hs with hs | hs
      · exact h4.2 s (List.mem_append.2 (.inl hs))
      · exact h4.2 s (List.mem_append.2 (.inr (h.names_sub.2 s hs)))
  unfold validB
  rw [hnames]
  simp only [Bool.and_eq_true, decide_eq_true_eq, List.all_eq_true]
  rw [h.len]
  refine ⟨⟨⟨⟨⟨⟨⟨⟨h1, by omega⟩, by omega⟩, trivial⟩, hs.1⟩, hs.2⟩, hr1⟩, by omega⟩, fun r' hr' => ?_⟩
  obtain ⟨r, hk, rfl⟩ := (h.mem_rules r').1 hr'
  have := (h.rul r hk).1
  rwa [h.len] at this

/-! All of it is productive and useful. -/
theorem Ok.all_hp {j : Int} (h0 : 0 ≤ j) (h1 : j < (rG g).nonterms.length) : HP (rG g).rules true j := by
  obtain ⟨i, hu, rfl⟩ := h.old h0 h1
  exact h.hp_red (h.up_hp hu) hu
theorem Ok.pr_red : prL (rG g) = List.replicate (rG g).nonterms.length true := by
  refine eq_of_rd (n := (rG g).nonterms.length) (by simp [prL]) (by simp) (fun k hk => ?_)
  rw [pr_iff (rG g) (by omega) (by omega)]
  exact ⟨fun _ => by simp [rdOf, List.getD_eq_getElem?_getD, hk], fun _ => h.all_hp (by omega) (by omega)⟩
theorem Ok.works_red {r : Rul} (hk : Kept g r) : worksB (prL (rG g)) (renRul (NL g) r).body = true := by
  unfold worksB dead
  rw [Bool.not_eq_true', List.any_eq_false]
  intro y hy
  by_cases hn : y < 0
  · have h2 := (h.rul r hk).2.2.2 y hy hn
    have := (pr_iff (rG g) (i := -1 - y) (by omega) (by omega)).2 (h.all_hp (by omega) (by omega))
    rw [this]; simp
  · rw [decide_eq_false hn]; simp
theorem Ok.up_red {i : Int} (hu : UP g (prL g) i) : UP (rG g) (prL (rG g)) (numIn (NL g) i) := by
  induction hu with
  | start => exact UP.start
  | step r hr hh hw x hx hn ih =>
    have hk : Kept g r := ⟨hr, hh, hw⟩
    have := UP.step (g := rG g) (pr := prL (rG g)) (renRul (NL g) r) ((h.mem_rules _).2 ⟨r, hk, rfl⟩) ih (h.works_red hk) (renSym (NL g) x) (List.mem_map.2 ⟨x, hx, rfl⟩) (by
      unfold renSym; rw [if_pos hn]; have := h.num_bd (hk.sym hx hn); omega)
    unfold renSym at this; rw [if_pos hn] at this
    rwa [show -1 - (-1 - numIn (NL g) (-1 - x)) = numIn (NL g) (-1 - x) by omega] at this
theorem Ok.us_red : useL (rG g) = List.replicate (rG g).nonterms.length true := by
  refine eq_of_rd (n := (rG g).nonterms.length) (by simp [useL]) (by simp) (fun k hk => ?_)
  rw [us_iff (rG g) (by omega) (by omega)]
  refine ⟨fun _ => by simp [rdOf, List.getD_eq_getElem?_getD, hk], fun _ => ?_⟩
  obtain ⟨i, hu, e⟩ := h.old (j := (k : Int)) (by omega) (by omega)
  rw [← e]; exact h.up_red hu

/-- Reducing the reduced grammar leaves it. -/
theorem Ok.again : reduceR (rG g) = (rG g, (List.range (rG g).rules.length).map (fun j : Nat => (j : Int)), 0) := by
  have hst := h.num_bd start_up
  have hus : useIdx (useL (rG g)) (rG g).nonterms.length = List.range (rG g).nonterms.length := by
    unfold useIdx
    rw [List.filter_eq_self, h.us_red]
    intro k hk
    simp at hk
    simp [rdOf, List.getD_eq_getElem?_getD, hk]
  have hke : keptIdx (prL (rG g)) (useL (rG g)) (rG g).rules (rG g).rules.length = List.range (rG g).rules.length := by
    unfold keptIdx
    rw [List.filter_eq_self]
    intro k hk
    simp at hk
    have hm := rdOf_mem Rul.zero (rG g).rules k hk
    obtain ⟨r, hkr, e⟩ := (h.mem_rules _).1 hm
    rw [e]
    unfold keeps
    rw [h.works_red hkr, Bool.and_true]
    exact (us_iff (rG g) (h.rul r hkr).2.1 (h.rul r hkr).2.2.1).2 (h.up_red hkr.2.1)
  have hnum : ∀ i : Int, 0 ≤ i → i < (rG g).nonterms.length → numIn (List.range (rG g).nonterms.length) i = i := by
    intro i h0 h1
    obtain ⟨k, rfl⟩ := nat_of h0
    exact numIn_range _ _ (by omega)
  have hred : redG (rG g) (prL (rG g)) (useL (rG g)) = rG g := by
    have e1 : (List.range (rG g).nonterms.length).map (fun i : Nat => rdOf ByteArray.empty (rG g).nonterms (i : Int)) = (rG g).nonterms := by
      apply List.ext_getElem (by simp)
      intro i h1 h2
      rw [List.getElem_map, List.getElem_range, rdOf_nat _ _ _ h2]
    have e2 : (List.range (rG g).rules.length).map (fun j : Nat => renRul (List.range (rG g).nonterms.length) (rdOf Rul.zero (rG g).rules (j : Int))) = (rG g).rules := by
      apply List.ext_getElem (by simp)
      intro i h1 h2
      rw [List.getElem_map, List.getElem_range, rdOf_nat _ _ _ h2]
      have hm : (rG g).rules[i] ∈ (rG g).rules := List.getElem_mem h2
      obtain ⟨r, hkr, e⟩ := (h.mem_rules _).1 hm
      rw [e]
      have ho := (h.rul r hkr).2
      generalize renRul (NL g) r = q at *
      unfold renRul
      rw [hnum _ ho.1 ho.2.1]
      have : q.body.map (renSym (List.range (rG g).nonterms.length)) = q.body := by
        conv => rhs; rw [← List.map_id q.body]
        apply List.map_congr_left
        intro x hx
        unfold renSym
        split
        · rename_i hn
          have := ho.2.2 x hx hn
          rw [hnum _ (by omega) (by omega)]
          simp only [id]; omega
        · rfl
      rw [this]
    unfold redG
    rw [hus, hke, e1, e2, hnum _ (show 0 ≤ (rG g).start from hst.1) (by rw [h.len]; exact hst.2)]
  unfold reduceR
  rw [h.valid, hred, hke]
  have hp : rdOf false (prL (rG g)) (rG g).start = true := (pr_iff (rG g) hst.1 (by rw [h.len]; exact hst.2)).2 (h.all_hp hst.1 (by rw [h.len]; exact hst.2))
  rw [hp]
  rfl
end
/-- Reduce's answer: an error and nothing, or the reduced grammar. -/
theorem reduceR_cases (g : Gr) : (reduceR g = (Gr.zero, [], 1) ∧ validB g = false) ∨ (reduceR g = (Gr.zero, [], 10) ∧ validB g = true ∧ rdOf false (prL g) g.start = false) ∨
    (reduceR g = (rG g, (keptIdx (prL g) (useL g) g.rules g.rules.length).map (fun j : Nat => (j : Int)), 0) ∧ Ok g) := by
  unfold reduceR
  cases hv : validB g with
  | false => exact .inl ⟨rfl, rfl⟩
  | true =>
    cases hp : rdOf false (prL g) g.start with
    | false => exact .inr (.inl ⟨rfl, rfl, rfl⟩)
    | true => exact .inr (.inr ⟨rfl, hv, hp⟩)
end Go.Proofs.Ytadednkdhblpfaa.Law
