/- What a grammar derives, and that reducing keeps it. No program in sight. -/
import Derived.Test.YtadednkdhblpfaaPlain
namespace Go.Proofs.Ytadednkdhblpfaa.Law
open Go.RowKit Go.Proofs.YtadednkdhblpfaaW.PrintWords Go.Proofs.Ytadednkdhblpfaa.B Go.Proofs.Ytadednkdhblpfaa.Val Go.Proofs.Ytadednkdhblpfaa.Ana Go.Proofs.Ytadednkdhblpfaa.Red
set_option linter.unusedVariables false
set_option linter.unusedSimpArgs false
set_option linter.unusedSectionVars false

/-- symbols derive the piece from i to k of s -/
inductive BD (rs : List Rul) (s : List Int) : List Int → Nat → Nat → Prop
  | nil (i : Nat) : BD rs s [] i i
  | term (x : Int) (l : List Int) (i k : Nat) : 0 ≤ x → i < s.length → rd s i = x → BD rs s l (i + 1) k → BD rs s (x :: l) i k
  | non (x : Int) (l : List Int) (i m k : Nat) (r : Rul) : x < 0 → r ∈ rs → r.head = -1 - x → BD rs s r.body i m → BD rs s l m k → BD rs s (x :: l) i k
/-- a nonterminal derives the piece from i to k of s -/
def Der (rs : List Rul) (s : List Int) (a : Int) (i k : Nat) : Prop := ∃ r ∈ rs, r.head = a ∧ BD rs s r.body i k

theorem BD.le {rs : List Rul} {s l : List Int} {i k : Nat} (h : BD rs s l i k) : i ≤ k := by
  induction h with
  | nil i => exact Nat.le_refl _
  | term x l i k _ _ _ _ ih => omega
  | non x l i m k r _ _ _ _ _ ih1 ih2 => omega

/-! The walk's function. -/
def bodyB (T : Int → Nat → Nat → Bool) (s : List Int) : List Int → Nat → Nat → Bool
  | [], i, k => decide (i = k)
  | x :: l, i, k => if 0 ≤ x then decide (i < k) && decide (rd s i = x) && bodyB T s l (i + 1) k
    else (List.range (k + 1)).any (fun m => decide (i ≤ m) && T (-1 - x) i m && bodyB T s l m k)
theorem bodyB_sound {rs : List Rul} {s : List Int} {T : Int → Nat → Nat → Bool} (hT : ∀ a i k, i ≤ k → k ≤ s.length → T a i k = true → Der rs s a i k) :
    ∀ (l : List Int) (i k : Nat), i ≤ k → k ≤ s.length → bodyB T s l i k = true → BD rs s l i k := by
  intro l
  induction l with
  | nil =>
    intro i k hik hk h
    have : i = k := by simpa [bodyB] using h
    subst this; exact BD.nil i
  | cons x l ih =>
    intro i k hik hk h
    unfold bodyB at h
    by_cases hx : 0 ≤ x
    · rw [if_pos hx] at h
      simp only [Bool.and_eq_true, decide_eq_true_eq] at h
      exact BD.term x l i k hx (by omega) h.1.2 (ih (i + 1) k (by omega) hk h.2)
    · rw [if_neg hx] at h
      obtain ⟨m, hm, h⟩ := List.any_eq_true.1 h
      simp only [Bool.and_eq_true, decide_eq_true_eq, List.mem_range] at h hm
      obtain ⟨r, hr, he, hb⟩ := hT _ _ _ h.1.1 (by omega) h.1.2
      exact BD.non x l i m k r (by omega) hr he hb (ih m k (by omega) hk h.2)
theorem bodyB_closed {rs : List Rul} {s : List Int} {T : Int → Nat → Nat → Bool} (hT : ∀ r ∈ rs, ∀ i k, i ≤ k → k ≤ s.length → bodyB T s r.body i k = true → T r.head i k = true)
    {l : List Int} {i k : Nat} (h : BD rs s l i k) : k ≤ s.length → bodyB T s l i k = true := by
  induction h with
  | nil i => intro _; simp [bodyB]
  | term x l i k hx hi he hb ih =>
    intro hk
    have := hb.le
    unfold bodyB
    rw [if_pos hx]
    simp only [Bool.and_eq_true, decide_eq_true_eq]
    exact ⟨⟨by omega, he⟩, ih hk⟩
  | non x l i m k r hx hr he hb hl ih1 ih2 =>
    intro hk
    have h1 := hb.le
    have h2 := hl.le
    unfold bodyB
    rw [if_neg (by omega)]
    refine List.any_eq_true.2 ⟨m, List.mem_range.2 (by omega), ?_⟩
    simp only [Bool.and_eq_true, decide_eq_true_eq]
    refine ⟨⟨h1, ?_⟩, ih2 hk⟩
    rw [← he]
    exact hT r hr i m h1 (by omega) (ih1 (by omega))
/-- a sound and closed table holds what is derived -/
theorem table_iff {rs : List Rul} {s : List Int} {T : Int → Nat → Nat → Bool} (h1 : ∀ a i k, i ≤ k → k ≤ s.length → T a i k = true → Der rs s a i k)
    (h2 : ∀ r ∈ rs, ∀ i k, i ≤ k → k ≤ s.length → bodyB T s r.body i k = true → T r.head i k = true) (a : Int) (i k : Nat) (hik : i ≤ k) (hk : k ≤ s.length) : T a i k = true ↔ Der rs s a i k := by
  refine ⟨h1 a i k hik hk, ?_⟩
  rintro ⟨r, hr, rfl, hb⟩
  exact h2 r hr i k hik hk (bodyB_closed h2 hb hk)

/-! Reducing. -/
theorem BD.hp {rs : List Rul} {s l : List Int} {i k : Nat} (h : BD rs s l i k) : ∀ x ∈ l, x < 0 → HP rs true (-1 - x) := by
  induction h with
  | nil i => intro x hx; cases hx
  | term y l i k hy _ _ _ ih =>
    intro x hx hn
    rcases List.mem_cons.1 hx with rfl | hx
    · omega
    · exact ih x hx hn
  | non y l i m k r hy hr he hb hl ih1 ih2 =>
    intro x hx hn
    rcases List.mem_cons.1 hx with rfl | hx
    · rw [← he]; exact HP.mk r hr ih1 (fun _ _ _ => rfl)
    · exact ih2 x hx hn
theorem Der.hp {rs : List Rul} {s : List Int} {a : Int} {i k : Nat} (h : Der rs s a i k) : HP rs true a := by
  obtain ⟨r, hr, rfl, hb⟩ := h
  exact HP.mk r hr hb.hp (fun _ _ _ => rfl)
section
variable {g : Gr} (h : Ok g)
include h
theorem Ok.kept_of {r : Rul} {s : List Int} {i k : Nat} (hr : r ∈ g.rules) (hu : UP g (prL g) r.head) (hb : BD g.rules s r.body i k) : Kept g r := ⟨hr, hu, (h.works_iff hr).2 hb.hp⟩
theorem Ok.bd_to {s l : List Int} {i k : Nat} (hb : BD g.rules s l i k) : (∀ x ∈ l, x < 0 → UP g (prL g) (-1 - x)) → BD (rG g).rules s (l.map (renSym (NL g))) i k := by
  induction hb with
  | nil i => intro _; exact BD.nil i
  | term x l i k hx hi he hb ih =>
    intro hu
    rw [List.map_cons]
    have e : renSym (NL g) x = x := by unfold renSym; rw [if_neg (by omega)]
    exact BD.term _ _ i k (by rw [e]; exact hx) hi (by rw [e]; exact he) (ih (fun y hy => hu y (List.mem_cons_of_mem _ hy)))
  | non x l i m k r hx hr he hb hl ih1 ih2 =>
    intro hu
    have hux := hu x List.mem_cons_self hx
    have hk : Kept g r := h.kept_of hr (by rw [he]; exact hux) hb
    have hn := h.num_bd hux
    rw [List.map_cons]
    have e : renSym (NL g) x = -1 - numIn (NL g) (-1 - x) := by unfold renSym; rw [if_pos hx]
    refine BD.non _ _ i m k (renRul (NL g) r) (by rw [e]; omega) ((h.mem_rules _).2 ⟨r, hk, rfl⟩) ?_ (ih1 (fun y hy hn => hk.sym hy hn)) (ih2 (fun y hy => hu y (List.mem_cons_of_mem _ hy)))
    rw [e]
    show numIn (NL g) r.head = _
    rw [he]; omega
theorem Ok.bd_from {s l' : List Int} {i k : Nat} (hb : BD (rG g).rules s l' i k) : ∀ l, l' = l.map (renSym (NL g)) → (∀ x ∈ l, x < 0 → UP g (prL g) (-1 - x)) → BD g.rules s l i k := by
  induction hb with
  | nil i =>
    intro l e hu
    cases l with
    | nil => exact BD.nil i
    | cons => simp at e
  | term x l' i k hx hi he hb ih =>
    intro l e hu
    cases l with
    | nil => simp at e
    | cons y l =>
      rw [List.map_cons] at e
      injection e with e1 e2
      have hy : 0 ≤ y := by
        rcases Int.lt_or_le y 0 with hn | hn
        · have := h.num_bd (hu y List.mem_cons_self hn)
          unfold renSym at e1; rw [if_pos hn] at e1; omega
        · exact hn
      have e3 : renSym (NL g) y = y := by unfold renSym; rw [if_neg (by omega)]
      exact BD.term y l i k hy hi (by rw [he, e1, e3]) (ih l e2 (fun z hz => hu z (List.mem_cons_of_mem _ hz)))
  | non x l' i m k r' hx hr he hb hl ih1 ih2 =>
    intro l e hu
    cases l with
    | nil => simp at e
    | cons y l =>
      rw [List.map_cons] at e
      injection e with e1 e2
      have hy : y < 0 := by
        rcases Int.lt_or_le y 0 with hn | hn
        · exact hn
        · unfold renSym at e1; rw [if_neg (by omega)] at e1; omega
      have huy := hu y List.mem_cons_self hy
      obtain ⟨r, hk, rfl⟩ := (h.mem_rules _).1 hr
      have e3 : renSym (NL g) y = -1 - numIn (NL g) (-1 - y) := by unfold renSym; rw [if_pos hy]
      have e4 : r.head = -1 - y := by
        refine h.num_inj hk.2.1 huy ?_
        have : numIn (NL g) r.head = -1 - x := he
        rw [this, e1, e3]; omega
      exact BD.non y l i m k r hy hk.1 e4 (ih1 r.body rfl (fun z hz hn => hk.sym hz hn)) (ih2 l e2 (fun z hz => hu z (List.mem_cons_of_mem _ hz)))
/-- THE LANGUAGE IS KEPT. -/
theorem Ok.der_iff (s : List Int) (i k : Nat) : Der (rG g).rules s (rG g).start i k ↔ Der g.rules s g.start i k := by
  have hst : (rG g).start = numIn (NL g) g.start := rfl
  constructor
  · rintro ⟨r', hr, he, hb⟩
    obtain ⟨r, hk, rfl⟩ := (h.mem_rules _).1 hr
    have e : r.head = g.start := h.num_inj hk.2.1 start_up he
    exact ⟨r, hk.1, e, h.bd_from hb r.body rfl (fun z hz hn => hk.sym hz hn)⟩
  · rintro ⟨r, hr, he, hb⟩
    have hk : Kept g r := h.kept_of hr (by rw [he]; exact start_up) hb
    refine ⟨renRul (NL g) r, (h.mem_rules _).2 ⟨r, hk, rfl⟩, ?_, h.bd_to hb (fun z hz hn => hk.sym hz hn)⟩
    rw [hst, ← he]; rfl
end
/-- a grammar whose start is not productive derives nothing -/
theorem no_der {g : Gr} (hv : validB g = true) (hp : rdOf false (prL g) g.start = false) (s : List Int) (i k : Nat) : ¬ Der g.rules s g.start i k := by
  intro hd
  have hs := (rulOk_of_valid hv).2.1
  have := (pr_iff g hs.1 hs.2).2 hd.hp
  rw [hp] at this
  cases this
end Go.Proofs.Ytadednkdhblpfaa.Law
