/- Rows of the call's own with the set of blocks that they lie in; append. -/
import Derived.Test.YtadednkdhblpfaaBase
import Derived.Maps.Own
namespace Go.Proofs.Ytadednkdhblpfaa.B
open Go.RowKit Go.Proofs.YtadednkdhblpfaaW.PrintWords Go.Proofs.YtadednkdhblpfaaW.PrintLast Go.Proofs.YtadednkdhblpfaaW.PrintMore
set_option linter.unusedVariables false
set_option linter.unusedSimpArgs false

/-- v is a row of the call's own (elements of type e, told by d), all of whose blocks are among S. -/
structure Row {α : Type} (d : Kd α) (e : Nat) (w : World) (base : Nat) (S : Nat → Prop) (v : Value) (xs : List α) : Prop where
  r : Kd.R d e w base S v xs
  b : ∀ k, S k → base ≤ k ∧ k < w.heap.size

section
variable {α : Type} {d : Kd α} {e : Nat} {w w1 : World} {base : Nat} {S T : Nat → Prop} {v : Value} {xs : List α}
theorem Row.of_R {ok : Nat → Prop} (h : Kd.R d e w base ok v xs) : Row d e w base (fun k => ok k ∧ base ≤ k ∧ k < w.heap.size) v xs :=
  ⟨Kd.R_mono (Kd.R_bound h) (fun k hk => ⟨hk.1, hk.2.1, hk.2.2.1⟩), fun k hk => ⟨hk.2.1, hk.2.2⟩⟩
theorem Row.nil (d : Kd α) (e : Nat) (w : World) (base : Nat) : Row d e w base (fun _ => False) (.slice none 0 0) [] := ⟨Kd.R_nil d e w base _, fun _ h => h.elim⟩
theorem Row.ch (h : Row d e w base S v xs) (k : Ch T w w1) (hs : ∀ i, S i → ¬ T i) : Row d e w1 base S v xs :=
  ⟨Kd.R_step h.r (fun i hi hlt => k.block i hlt (hs i hi)), fun i hi => ⟨(h.b i hi).1, Nat.lt_of_lt_of_le (h.b i hi).2 k.size⟩⟩
theorem Row.below (h : Row d e w base S v xs) (k : Below w.heap.size w w1) : Row d e w1 base S v xs := h.ch (T := fun _ => False) (Ch.of_below k) (fun _ _ h => h)
theorem Row.alloc (h : Row d e w base S v xs) (o : Obj) : Row d e (w.alloc o) base S v xs := h.below (below_alloc (Below.refl _ _) o)
theorem Row.drewN (h : Row d e w base S v xs) (n : Nat) : Row d e (w.drewN n) base S v xs := h.below (pw_below_drewN (Below.refl _ _) n)
theorem Row.setCell (h : Row d e w base S v xs) {p : Addr} (hp : ¬ S p.block) (u : Value) : Row d e (w.setCell p u) base S v xs :=
  h.ch (T := fun i => i = p.block) ⟨rfl, rfl, rfl, by simp [World.setCell], fun i _ hn => Below.heap_setCell w p u i hn⟩ (fun i hi e => by subst e; exact hp hi)
theorem Row.reads (h : Row d e w base S v xs) : ∃ A c, v = .slice A xs.length c ∧ xs.length ≤ c ∧ Kd.C d w A xs.length xs := Kd.R_reads h.r
theorem Row.lower {b2 : Nat} (h : Row d e w base S v xs) (hb : b2 ≤ base) : Row d e w b2 S v xs := ⟨Kd.R_lower h.r hb, fun k hk => ⟨Nat.le_trans hb (h.b k hk).1, (h.b k hk).2⟩⟩
theorem Row.own (h : Row d e w base S v xs) : ∀ k, v.ownBlock = some k → S k := h.r.1
end

section
variable {P : Program} {ops : Array Oper} {rest : List Oper} {o : Oper} {a : Act} {Q : Exit → Act → World → Prop} {α : Type}
/-- append(v, x), behind 'at_builtin'; x's cells are cs, its own rows lie in T. -/
theorem row_append (d : Kd α) {W : World} (base : Nat) (hgd : o.guard = none) (s x : Operand) (t e : TypeId) (z : Value) (bytes : Nat)
    (ho : o.op = .call { callee := .builtin .append, args := #[s, x], argTypes := #[t, t] })
    (ht : P.underlying t = some (.slice e)) (hinfo : (P.info? e).map (fun i => (i.zero, i.size, i.bytes)) = some (some z, d.sz, bytes)) (hz : z.cells.size = d.sz) (hs0 : 0 < d.sz) (hb0 : 0 < bytes)
    (v : Value) (xs : List α) (p : α) (cs : List Value) (S T : Nat → Prop) (hs : a.eval s = v) (hx : a.eval x = .slice (some ⟨W.heap.size, 0, none⟩) 1 1) (hp : d.M W base T p cs) (hsep : ∀ k, T k → ¬ S k)
    (HO : Row d e W base S v xs) (hbase : base ≤ W.heap.size) (hl : (xs.length + 1) * bytes ≤ 140737488355328)
    (h : ∀ v1 w1 S1, (∀ k, S1 k → S k ∨ T k ∨ W.heap.size ≤ k) → Row d e w1 base S1 v1 (xs ++ [p]) → Ch S W w1 → wpList P ops Q rest (a.put o.dst v1) w1) :
    wpList P ops Q (o :: rest) a (W.alloc (.cells cs.toArray e)) := by
  refine Kd.R_append d (w0 := W) base hgd s x t e z bytes ho ht hinfo hz hs0 hb0 v xs p cs (fun k => S k ∨ T k ∨ W.heap.size ≤ k) T hs hx hp
    (fun k hk => ⟨.inr (.inl hk), fun e => hsep k hk (HO.own k e.symm)⟩) (fun k hk => .inr (.inr hk)) (Kd.R_mono HO.r (fun k hk => .inl hk)) (Below.refl _ _) hbase hl ?_
  intro v1 w1 hr hb hg _
  refine h v1 w1 _ (fun k hk => hk.1) (Row.of_R hr) ((Ch.refl S W).grown hg (fun b hb => .inl (HO.own b hb)))
end

/-- What a grown row's set keeps away from. -/
theorem sep_grown {S T S1 U : Nat → Prop} {n : Nat} (h1 : ∀ k, S1 k → S k ∨ T k ∨ n ≤ k) (hS : ∀ k, U k → ¬ S k) (hT : ∀ k, U k → ¬ T k) (hU : ∀ k, U k → k < n) : ∀ k, U k → ¬ S1 k := fun k hk h => by
  rcases h1 k h with h | h | h
  · exact hS k hk h
  · exact hT k hk h
  · have := hU k hk; omega

/-! Ownership by a label: each block bears one, a row's blocks bear the row's. -/
/-- v is a row of the call's own, all of whose blocks bear the label t. -/
def LRow {α : Type} (lab : Nat → Nat) (t : Nat) (d : Kd α) (e : Nat) (w : World) (base : Nat) (v : Value) (xs : List α) : Prop :=
  Row d e w base (fun k => lab k = t ∧ base ≤ k ∧ k < w.heap.size) v xs
/-- block b holds these cells and bears the label t -/
structure LBox (lab : Nat → Nat) (t : Nat) (w : World) (b : Nat) (cs : Array Value) (ty : Nat) : Prop where
  h : w.heap[b]? = some (.cells cs ty (0, 0))
  l : lab b = t
section
variable {α : Type} {lab lab' : Nat → Nat} {t : Nat} {d : Kd α} {e : Nat} {w w1 : World} {base : Nat} {T : Nat → Prop} {v : Value} {xs : List α}
theorem LRow.nil (lab : Nat → Nat) (t : Nat) (d : Kd α) (e : Nat) (w : World) (base : Nat) : LRow lab t d e w base (.slice none 0 0) [] :=
  ⟨Kd.R_nil d e w base _, fun k hk => ⟨hk.2.1, hk.2.2⟩⟩
/-- whatever changes other blocks alone, and gives no block of the row another label -/
theorem LRow.step (h : LRow lab t d e w base v xs) (k : Ch T w w1) (hs : ∀ i, i < w.heap.size → lab i = t → ¬ T i ∧ lab' i = t) : LRow lab' t d e w1 base v xs := by
  have h1 := Row.ch h k (fun i hi => (hs i hi.2.2 hi.1).1)
  exact ⟨Kd.R_mono h1.r (fun i hi => ⟨(hs i hi.2.2 hi.1).2, hi.2.1, Nat.lt_of_lt_of_le hi.2.2 k.size⟩), fun i hi => ⟨hi.2.1, hi.2.2⟩⟩
theorem LRow.ch (h : LRow lab t d e w base v xs) (k : Ch T w w1) (hs : ∀ i, i < w.heap.size → lab i = t → ¬ T i) : LRow lab t d e w1 base v xs := h.step k (fun i hi hl => ⟨hs i hi hl, hl⟩)
theorem LRow.below (h : LRow lab t d e w base v xs) (k : Below w.heap.size w w1) : LRow lab t d e w1 base v xs := h.ch (T := fun _ => False) (Ch.of_below k) (fun _ _ _ h => h)
theorem LRow.relab (h : LRow lab t d e w base v xs) (hs : ∀ i, i < w.heap.size → lab i = t → lab' i = t) : LRow lab' t d e w base v xs := h.step (Ch.refl (fun _ => False) w) (fun i hi hl => ⟨fun h => h, hs i hi hl⟩)
theorem LRow.reads (h : LRow lab t d e w base v xs) : ∃ A c, v = .slice A xs.length c ∧ xs.length ≤ c ∧ Kd.C d w A xs.length xs := Row.reads h
theorem LRow.of_row {S : Nat → Prop} (h : Row d e w base S v xs) (hs : ∀ k, S k → lab k = t) : LRow lab t d e w base v xs :=
  ⟨Kd.R_mono h.r (fun k hk => ⟨hs k hk, h.b k hk⟩), fun k hk => ⟨hk.2.1, hk.2.2⟩⟩
theorem LRow.lower {b2 : Nat} (h : LRow lab t d e w base v xs) (hb : b2 ≤ base) : LRow lab t d e w b2 v xs :=
  ⟨Kd.R_mono (Kd.R_lower (Row.lower h hb).r (Nat.le_refl _)) (fun k hk => ⟨hk.1, Nat.le_trans hb hk.2.1, hk.2.2⟩), fun k hk => ⟨hk.2.1, hk.2.2⟩⟩
variable {b : Nat} {cs : Array Value} {ty : Nat}
theorem LBox.step (h : LBox lab t w b cs ty) (k : Ch T w w1) (hs : ∀ i, i < w.heap.size → lab i = t → ¬ T i ∧ lab' i = t) : LBox lab' t w1 b cs ty :=
  ⟨k.blk h.h (hs b (blk_lt h.h) h.l).1, (hs b (blk_lt h.h) h.l).2⟩
theorem LBox.ch (h : LBox lab t w b cs ty) (k : Ch T w w1) (hs : ∀ i, i < w.heap.size → lab i = t → ¬ T i) : LBox lab t w1 b cs ty := h.step k (fun i hi hl => ⟨hs i hi hl, hl⟩)
theorem LBox.below (h : LBox lab t w b cs ty) (k : Below w.heap.size w w1) : LBox lab t w1 b cs ty := h.ch (T := fun _ => False) (Ch.of_below k) (fun _ _ _ h => h)
theorem LBox.lt (h : LBox lab t w b cs ty) : b < w.heap.size := blk_lt h.h
theorem LBox.cell (h : LBox lab t w b cs ty) (i : Nat) : w.cell? ⟨b, i, none⟩ = cs[i]? := blk_cell h.h i
theorem LBox.frozen (h : LBox lab t w b cs ty) (i : Nat) : w.frozen? ⟨b, i, none⟩ = false := blk_frozen h.h i
theorem LBox.put (h : LBox lab t w b cs ty) (i : Nat) (u : Value) {cs' : Array Value} (hc : cs.setIfInBounds i u = cs') : LBox lab t (w.setCell ⟨b, i, none⟩ u) b cs' ty := ⟨by rw [← hc]; exact blk_set h.h i u, h.l⟩
end
/-- the labels behind an append: what is new, and what the element brought, is the row's -/
def labApp (lab : Nat → Nat) (n t s : Nat) : Nat → Nat := fun k => if n ≤ k ∨ lab k = s then t else lab k
theorem labApp_keep {lab : Nat → Nat} {n t s r k : Nat} (hk : k < n) (hr : lab k = r) (hs : r ≠ s) : labApp lab n t s k = r := by
  unfold labApp; rw [if_neg (by rintro (h | h); omega; exact hs (hr.symm.trans h))]; exact hr
section
variable {P : Program} {ops : Array Oper} {rest : List Oper} {o : Oper} {a : Act} {Q : Exit → Act → World → Prop} {α : Type}
/-- append(v, x) by labels: the row bears t, x's own rows bear s. -/
theorem lrow_append (d : Kd α) {W : World} (lab : Nat → Nat) (τ σ : Nat) (base : Nat) (hgd : o.guard = none) (s x : Operand) (t e : TypeId) (z : Value) (bytes : Nat)
    (ho : o.op = .call { callee := .builtin .append, args := #[s, x], argTypes := #[t, t] })
    (ht : P.underlying t = some (.slice e)) (hinfo : (P.info? e).map (fun i => (i.zero, i.size, i.bytes)) = some (some z, d.sz, bytes)) (hz : z.cells.size = d.sz) (hs0 : 0 < d.sz) (hb0 : 0 < bytes)
    (v : Value) (xs : List α) (p : α) (cs : List Value) (hs : a.eval s = v) (hx : a.eval x = .slice (some ⟨W.heap.size, 0, none⟩) 1 1) (hp : d.M W base (fun k => lab k = σ) p cs) (hne : σ ≠ τ)
    (HO : LRow lab τ d e W base v xs) (hbase : base ≤ W.heap.size) (hl : (xs.length + 1) * bytes ≤ 140737488355328)
    (h : ∀ v1 w1, LRow (labApp lab W.heap.size τ σ) τ d e w1 base v1 (xs ++ [p]) → Ch (fun k => lab k = τ) W w1 → wpList P ops Q rest (a.put o.dst v1) w1) :
    wpList P ops Q (o :: rest) a (W.alloc (.cells cs.toArray e)) := by
  refine row_append d base hgd s x t e z bytes ho ht hinfo hz hs0 hb0 v xs p cs (fun k => lab k = τ ∧ base ≤ k ∧ k < W.heap.size) (fun k => lab k = σ) hs hx hp (fun k hk h => hne (hk.symm.trans h.1)) HO hbase hl ?_
  intro v1 w1 S1 hS1 hr hch
  refine h v1 w1 (LRow.of_row hr (fun k hk => ?_)) (hch.mono (fun i _ hi => hi.1))
  unfold labApp
  rcases hS1 k hk with h | h | h
  · by_cases hc : W.heap.size ≤ k ∨ lab k = σ
    · rw [if_pos hc]
    · rw [if_neg hc]; exact h.1
  · rw [if_pos (.inr h)]
  · rw [if_pos (.inl h)]
end
theorem ownsMap_ch {H : Type} {P : Program} {k : TypeId} {R : Value → Option (DataW H × List MemPlace)} {w w1 : World} {b n : Nat} {D : DataW H} {T : Nat → Prop} (h : w.ownsMap P k R b n D) (hc : Ch T w w1) (hn : ¬ T b) : w1.ownsMap P k R b n D := by
  obtain ⟨es, clock, hb, r⟩ := h
  exact ⟨es, clock, (hc.block b (Array.getElem?_eq_some_iff.1 hb).1 hn).trans hb, r⟩
/-- the variadic's slice, behind a store -/
theorem sl_set (w : World) (p : Addr) (u : Value) : Value.slice (some ⟨w.heap.size, 0, none⟩) 1 1 = Value.slice (some ⟨(w.setCell p u).heap.size, 0, none⟩) 1 1 := by simp [World.setCell]
end Go.Proofs.Ytadednkdhblpfaa.B
