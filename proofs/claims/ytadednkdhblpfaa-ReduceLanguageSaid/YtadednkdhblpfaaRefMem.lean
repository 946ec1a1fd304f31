/- What emendateref22.Reduce holds in memory while it builds, by labels. -/
import Derived.Test.YtadednkdhblpfaaRedMem
namespace Go.Proofs.Ytadednkdhblpfaa.Ref
open Go.RowKit Go.Proofs.YtadednkdhblpfaaW.PrintWords Go.Proofs.YtadednkdhblpfaaW.PrintLast Go.Proofs.YtadednkdhblpfaaW.PrintMore Go.Proofs.Ytadednkdhblpfaa.B Go.Proofs.Ytadednkdhblpfaa.Val Go.Proofs.Ytadednkdhblpfaa.Ana Go.Proofs.Ytadednkdhblpfaa.Red
set_option linter.unusedVariables false
set_option linter.unusedSimpArgs false

/-- number's row (label 5), the names (6), the rules (7), the indices (8); w0 is the world in which it began to build -/
structure QM (w0 wr : World) (lab : Nat → Nat) (nb : Nat) (nm : List Int) (vN : Value) (ns : List ByteArray) (vR : Value) (rs : List Rul) (vF : Value) (fr : List Int) : Prop where
  old : ∀ k, k < w0.heap.size → lab k = 0
  b : Below w0.heap.size w0 wr
  num : LBox lab 5 wr nb (nm.map (Value.int .i64)).toArray 3
  n : LRow lab 6 Kd.string 9 wr w0.heap.size vN ns
  r : LRow lab 7 kRul 42 wr w0.heap.size vR rs
  f : LRow lab 8 (Kd.int .i64) 3 wr w0.heap.size vF fr
section
variable {w0 wr w1 : World} {lab lab' : Nat → Nat} {nb : Nat} {nm : List Int} {vN vR vF v1 : Value} {ns ns' : List ByteArray} {rs rs' : List Rul} {fr fr' : List Int} {T : Nat → Prop}
theorem under_old (hold : ∀ k, k < w0.heap.size → lab k = 0) (hb : Below w0.heap.size w0 wr) (k : Ch T wr w1) (hT : ∀ i, T i → lab i ≠ 0 ∨ wr.heap.size ≤ i) : Below w0.heap.size w0 w1 :=
  k.under hb hb.size (fun i hi => by
    rcases Nat.lt_or_ge i w0.heap.size with hlt | hge
    · have h0 := hold i hlt
      have hs := hb.size
      rcases hT i hi with h' | h'
      · exact absurd h0 h'
      · omega
    · exact hge)
/-- other blocks alone have changed -/
theorem QM.step (h : QM w0 wr lab nb nm vN ns vR rs vF fr) (k : Ch T wr w1) (hT : ∀ i, T i → 9 ≤ lab i ∨ wr.heap.size ≤ i) (hl : ∀ i, i < wr.heap.size → lab i < 9 → lab' i = lab i) : QM w0 w1 lab' nb nm vN ns vR rs vF fr := by
  have key : ∀ t, t < 9 → ∀ i, i < wr.heap.size → lab i = t → ¬ T i ∧ lab' i = t := fun t h9 i hi hlt => ⟨fun hTi => by
    rcases hT i hTi with h | h <;> omega, by rw [hl i hi (by omega)]; exact hlt⟩
  have hs := h.b.size
  exact ⟨fun i hi => by rw [hl i (by omega) (by rw [h.old i hi]; omega)]; exact h.old i hi, under_old h.old h.b k (fun i hi => by rcases hT i hi with h' | h'; exact .inl (by omega); exact .inr h'),
    h.num.step k (key 5 (by omega)), h.n.step k (key 6 (by omega)), h.r.step k (key 7 (by omega)), h.f.step k (key 8 (by omega))⟩
theorem QM.below (h : QM w0 wr lab nb nm vN ns vR rs vF fr) (k : Below wr.heap.size wr w1) : QM w0 w1 lab nb nm vN ns vR rs vF fr :=
  h.step (T := fun _ => False) (Ch.of_below k) (fun _ hf => hf.elim) (fun _ _ _ => rfl)
/-- a number is written -/
theorem QM.putNum (h : QM w0 wr lab nb nm vN ns vR rs vF fr) (i : Nat) (x : Int) : QM w0 (wr.setCell ⟨nb, i, none⟩ (.int .i64 x)) lab nb (nm.set i x) vN ns vR rs vF fr := by
  have set1 : Ch (fun k => k = nb) wr (wr.setCell ⟨nb, i, none⟩ (.int .i64 x)) := (Ch.refl (fun k => k = nb) wr).setCell (p := ⟨nb, i, none⟩) (.inl rfl) _
  have out : ∀ t, t ≠ 5 → ∀ k, k < wr.heap.size → lab k = t → ¬ (k = nb) := fun t h5 k _ hl e => by subst e; have := h.num.l; omega
  exact ⟨h.old, under_old h.old h.b set1 (fun k hk => .inl (by subst hk; have := h.num.l; omega)), h.num.put i _ (by simp [List.setIfInBounds_toArray, List.map_set]),
    h.n.ch set1 (out 6 (by omega)), h.r.ch set1 (out 7 (by omega)), h.f.ch set1 (out 8 (by omega))⟩
/-- a name more -/
theorem QM.pushN (h : QM w0 wr lab nb nm vN ns vR rs vF fr) (k : Ch (fun i => lab i = 6) wr w1) (hr : LRow (labApp lab wr.heap.size 6 99) 6 Kd.string 9 w1 w0.heap.size v1 ns') :
    QM w0 w1 (labApp lab wr.heap.size 6 99) nb nm v1 ns' vR rs vF fr := by
  have key : ∀ t, t ≠ 6 → t ≠ 99 → ∀ i, i < wr.heap.size → lab i = t → ¬ (lab i = 6) ∧ labApp lab wr.heap.size 6 99 i = t := fun t h6 h99 i hi hl => ⟨fun e => h6 (hl.symm.trans e), labApp_keep hi hl h99⟩
  have hs := h.b.size
  exact ⟨fun i hi => labApp_keep (by omega) (h.old i hi) (by omega), under_old h.old h.b k (fun i hi => .inl (by omega)),
    h.num.step k (key 5 (by omega) (by omega)), hr, h.r.step k (key 7 (by omega) (by omega)), h.f.step k (key 8 (by omega) (by omega))⟩
/-- a rule more: its body's row (label 9) goes with it -/
theorem QM.pushR (h : QM w0 wr lab nb nm vN ns vR rs vF fr) (k : Ch (fun i => lab i = 7) wr w1) (hr : LRow (labApp lab wr.heap.size 7 9) 7 kRul 42 w1 w0.heap.size v1 rs') :
    QM w0 w1 (labApp lab wr.heap.size 7 9) nb nm vN ns v1 rs' vF fr := by
  have key : ∀ t, t ≠ 7 → t ≠ 9 → ∀ i, i < wr.heap.size → lab i = t → ¬ (lab i = 7) ∧ labApp lab wr.heap.size 7 9 i = t := fun t h7 h99 i hi hl => ⟨fun e => h7 (hl.symm.trans e), labApp_keep hi hl h99⟩
  have hs := h.b.size
  exact ⟨fun i hi => labApp_keep (by omega) (h.old i hi) (by omega), under_old h.old h.b k (fun i hi => .inl (by omega)),
    h.num.step k (key 5 (by omega) (by omega)), h.n.step k (key 6 (by omega) (by omega)), hr, h.f.step k (key 8 (by omega) (by omega))⟩
/-- an index more -/
theorem QM.pushF (h : QM w0 wr lab nb nm vN ns vR rs vF fr) (k : Ch (fun i => lab i = 8) wr w1) (hr : LRow (labApp lab wr.heap.size 8 99) 8 (Kd.int .i64) 3 w1 w0.heap.size v1 fr') :
    QM w0 w1 (labApp lab wr.heap.size 8 99) nb nm vN ns vR rs v1 fr' := by
  have key : ∀ t, t ≠ 8 → t ≠ 99 → ∀ i, i < wr.heap.size → lab i = t → ¬ (lab i = 8) ∧ labApp lab wr.heap.size 8 99 i = t := fun t h8 h99 i hi hl => ⟨fun e => h8 (hl.symm.trans e), labApp_keep hi hl h99⟩
  have hs := h.b.size
  exact ⟨fun i hi => labApp_keep (by omega) (h.old i hi) (by omega), under_old h.old h.b k (fun i hi => .inl (by omega)),
    h.num.step k (key 5 (by omega) (by omega)), h.n.step k (key 6 (by omega) (by omega)), h.r.step k (key 7 (by omega) (by omega)), hr⟩
/-- a number, read -/
theorem QM.num_cell (h : QM w0 wr lab nb nm vN ns vR rs vF fr) (k : Nat) (hk : k < nm.length) : wr.cell? ⟨nb, k, none⟩ = some (.int .i64 (rd nm k)) := by
  rw [h.num.cell k]; simp [rd, List.getD_eq_getElem?_getD, hk]
end

/-- the numbers, as number holds them behind i nonterminals -/
def numL (us : List Bool) (n i : Nat) : List Int := (List.range n).map (fun j : Nat => numIn (useIdx us i) (j : Int))
theorem numL_len (us : List Bool) (n i : Nat) : (numL us n i).length = n := by simp [numL]
theorem numL_zero (us : List Bool) (n : Nat) : numL us n 0 = List.replicate n 0 := by
  apply List.ext_getElem (by simp [numL])
  intro i h1 h2
  simp [numL, useIdx, numIn]
theorem numL_skip {us : List Bool} (n : Nat) {i : Nat} (h : rdOf false us (i : Int) = false) : numL us n (i + 1) = numL us n i := by
  unfold numL; rw [useIdx_succ, h]; simp
theorem numL_step {us : List Bool} (n : Nat) {i : Nat} (h : rdOf false us (i : Int) = true) : numL us n (i + 1) = (numL us n i).set i ((useIdx us i).length : Int) := by
  apply List.ext_getElem (by simp [numL])
  intro j h1 h2
  simp only [numL, List.length_map, List.length_range] at h1
  rw [List.getElem_set]
  simp only [numL, List.getElem_map, List.getElem_range]
  rw [useIdx_succ, h, if_pos rfl, numIn_snoc _ _ (not_mem_useIdx us i)]
  by_cases e : i = j
  · subst e; rw [if_pos rfl, if_pos rfl]
  · rw [if_neg (by omega), if_neg e]
theorem rd_numL (us : List Bool) (n i : Nat) {j : Int} (h0 : 0 ≤ j) (h1 : j < n) : rd (numL us n i) j = numIn (useIdx us i) j := by
  obtain ⟨k, rfl⟩ : ∃ k : Nat, j = k := ⟨j.toNat, by omega⟩
  rw [rd_nat _ k (by rw [numL_len]; omega)]; simp [numL]

section
variable {P : Program} {ops : Array Oper} {o : Oper} {a : Act} {Q : Exit → Act → World → Prop} {Kc : Act → World → Prop} {α : Type}
/-- append(v, x) by labels, as one step of a region that draws: x's one element lies at block xb. -/
theorem lrow_append_step (d : Kd α) {W : World} (lab : Nat → Nat) (τ σ : Nat) (base : Nat) (hw : Region.wanted o (yielded ops a.tmps) = true) (s x : Operand) (t e : TypeId) (z : Value) (bytes : Nat)
    (ho : o.op = .call { callee := .builtin .append, args := #[s, x], argTypes := #[t, t] })
    (ht : P.underlying t = some (.slice e)) (hinfo : (P.info? e).map (fun i => (i.zero, i.size, i.bytes)) = some (some z, d.sz, bytes)) (hz : z.cells.size = d.sz) (hs0 : 0 < d.sz) (hb0 : 0 < bytes)
    (v : Value) (xs : List α) (p : α) (cs : List Value) (xb xt : Nat) (hs : a.eval s = v) (hx : a.eval x = .slice (some ⟨xb, 0, none⟩) 1 1) (hxb : W.heap[xb]? = some (.cells cs.toArray xt (0, 0))) (hp : d.M W base (fun k => lab k = σ) p cs) (hne : σ ≠ τ)
    (HO : LRow lab τ d e W base v xs) (hbase : base ≤ W.heap.size) (hl : (xs.length + 1) * bytes ≤ 140737488355328)
    (h : ∀ v1 w1, LRow (labApp lab W.heap.size τ σ) τ d e w1 base v1 (xs ++ [p]) → Ch (fun k => lab k = τ) W w1 → Kc (a.put o.dst v1) w1) :
    if Region.wanted o (yielded ops a.tmps) = true then Oper.wp P o a W Kc Q else Kc (a.put o.dst undef) W := by
  have hlen : cs.length = d.sz := d.K_len (d.K_of_M hp)
  refine Kd.R_append_rows_step d (Rr := fun q c => q = p ∧ c = cs) (w0 := W) base hw s x t e z bytes ho ht hinfo hz hs0 hb0 v xs [p] (some ⟨xb, 0, none⟩) 1 1 (fun k => (lab k = τ ∧ base ≤ k ∧ k < W.heap.size) ∨ lab k = σ ∨ W.heap.size ≤ k) (fun k => lab k = σ) hs hx
    (Kd.R_mono HO.r (fun k hk => .inl hk)) ⟨rfl, by omega, fun _ => ⟨_, rfl, fun j q hj => ?_⟩⟩ (fun q c hq => by obtain ⟨rfl, rfl⟩ := hq; exact hp) (fun k hk => ⟨.inr (.inl hk), fun e => hne (hk.symm.trans (HO.own k e.symm).1)⟩) (fun k hk => .inr (.inr hk)) (Below.refl _ _ |>.mono hbase) hbase hl ?_
  · rcases j with _ | j
    · have : q = p := by simpa using hj.symm
      subst this
      refine ⟨cs, hlen, ⟨rfl, rfl⟩, fun i u hu => ?_⟩
      rw [add_plain]
      refine (blk_cell hxb _).trans ?_
      rw [Nat.zero_mul, Nat.zero_add]
      simpa using hu
    · simp at hj
  · intro v1 w1 hr _ hg _
    refine h v1 w1 (LRow.of_row (Row.of_R hr) (fun k hk => ?_)) ((Ch.refl (fun k => lab k = τ) W).grown hg (fun b hb => .inl (HO.own b hb).1))
    unfold labApp
    rcases hk.1 with h' | h' | h'
    · by_cases hc : W.heap.size ≤ k ∨ lab k = σ
      · rw [if_pos hc]
      · rw [if_neg hc]; exact h'.1
    · rw [if_pos (.inr h')]
    · rw [if_pos (.inl h')]
end

/-- .. with the rule's box (label 10) -/
structure QX (w0 wr : World) (lab : Nat → Nat) (nb : Nat) (nm : List Int) (vN : Value) (ns : List ByteArray) (vR : Value) (rs : List Rul) (vF : Value) (fr : List Int) (xb : Nat) (h0 : Int) (vB : Value) (p0 : Int) : Prop where
  m : QM w0 wr lab nb nm vN ns vR rs vF fr
  x : LBox lab 10 wr xb #[.int .i64 h0, vB, .int .i64 p0] 42
section
variable {w0 wr w1 : World} {lab lab' : Nat → Nat} {nb : Nat} {nm : List Int} {vN vR vF v1 : Value} {ns ns' : List ByteArray} {rs rs' : List Rul} {fr fr' : List Int} {T : Nat → Prop} {xb : Nat} {h0 p0 : Int} {vB : Value}
theorem QX.below (h : QX w0 wr lab nb nm vN ns vR rs vF fr xb h0 vB p0) (k : Below wr.heap.size wr w1) : QX w0 w1 lab nb nm vN ns vR rs vF fr xb h0 vB p0 := ⟨h.m.below k, h.x.below k⟩
theorem QX.pushR (h : QX w0 wr lab nb nm vN ns vR rs vF fr xb h0 vB p0) (k : Ch (fun i => lab i = 7) wr w1) (hr : LRow (labApp lab wr.heap.size 7 9) 7 kRul 42 w1 w0.heap.size v1 rs') :
    QX w0 w1 (labApp lab wr.heap.size 7 9) nb nm vN ns v1 rs' vF fr xb h0 vB p0 := ⟨h.m.pushR k hr, h.x.step k (fun i hi hl => ⟨by omega, labApp_keep hi hl (by omega)⟩)⟩
theorem QX.pushF (h : QX w0 wr lab nb nm vN ns vR rs vF fr xb h0 vB p0) (k : Ch (fun i => lab i = 8) wr w1) (hr : LRow (labApp lab wr.heap.size 8 99) 8 (Kd.int .i64) 3 w1 w0.heap.size v1 fr') :
    QX w0 w1 (labApp lab wr.heap.size 8 99) nb nm vN ns vR rs v1 fr' xb h0 vB p0 := ⟨h.m.pushF k hr, h.x.step k (fun i hi hl => ⟨by omega, labApp_keep hi hl (by omega)⟩)⟩
theorem QX.cells (h : QX w0 wr lab nb nm vN ns vR rs vF fr xb h0 vB p0) (j : Nat) (c : Int) (hj : j < nm.length) (hc : rd nm j = c) : wr.cell? ⟨xb, 0, none⟩ = some (.int .i64 h0) ∧ wr.cell? ⟨xb, 2, none⟩ = some (.int .i64 p0) ∧ wr.cell? ⟨nb, j, none⟩ = some (.int .i64 c) :=
  ⟨(h.x.cell 0).trans rfl, (h.x.cell 2).trans rfl, by rw [← hc]; exact h.m.num_cell j hj⟩
end
end Go.Proofs.Ytadednkdhblpfaa.Ref
