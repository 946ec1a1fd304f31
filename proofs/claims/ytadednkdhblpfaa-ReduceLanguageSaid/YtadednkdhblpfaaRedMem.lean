/- What Reduce holds in memory while it builds, by labels. -/
import Derived.Test.YtadednkdhblpfaaRedSpec
import Derived.Test.YtadednkdhblpfaaRow
namespace Go.Proofs.Ytadednkdhblpfaa.Red
open Go.RowKit Go.Proofs.YtadednkdhblpfaaW.PrintWords Go.Proofs.YtadednkdhblpfaaW.PrintLast Go.Proofs.YtadednkdhblpfaaW.PrintMore Go.Proofs.Ytadednkdhblpfaa.B Go.Proofs.Ytadednkdhblpfaa.Ana Go.Proofs.Ytadednkdhblpfaa.Val
set_option linter.unusedVariables false
set_option linter.unusedSimpArgs false

theorem put4 {w : World} {b t : Nat} {a0 a1 a2 a3 : Value} (h : w.heap[b]? = some (.cells #[a0, a1, a2, a3] t (0, 0))) (v0 v1 v2 v3 : Value) :
    ((((w.setCell ⟨b, 0, none⟩ v0).setCell ⟨b, 1, none⟩ v1).setCell ⟨b, 2, none⟩ v2).setCell ⟨b, 3, none⟩ v3).heap[b]? = some (.cells #[v0, v1, v2, v3] t (0, 0)) := by
  have := blk_set (blk_set (blk_set (blk_set h 0 v0) 1 v1) 2 v2) 3 v3
  exact this
theorem below4 {w W : World} {b : Nat} (h : Below w.heap.size w W) (hb : w.heap.size ≤ b) (v0 v1 v2 v3 : Value) :
    Below w.heap.size w ((((W.setCell ⟨b, 0, none⟩ v0).setCell ⟨b, 1, none⟩ v1).setCell ⟨b, 2, none⟩ v2).setCell ⟨b, 3, none⟩ v3) :=
  (((h.setCell hb _).setCell hb _).setCell hb _).setCell hb _

/-- the labels at the head of Reduce's loops: the caller's blocks, the boxes, the result's box, the map, the terminals, the lists of bools -/
def labR (n ob mb : Nat) : Nat → Nat := fun k => if k < n then 0 else if k < n + 2 then 1 else if k = ob then 2 else if k = mb then 3 else if mb < k then 4 else 5
theorem labR0 {n ob mb k : Nat} (h : k < n) : labR n ob mb k = 0 := by unfold labR; rw [if_pos h]
theorem labR1 {n ob mb k : Nat} (h : n ≤ k) (h2 : k < n + 2) : labR n ob mb k = 1 := by unfold labR; rw [if_neg (by omega), if_pos h2]
theorem labR2 {n ob mb k : Nat} (h : n + 2 ≤ k) (h2 : k = ob) : labR n ob mb k = 2 := by unfold labR; rw [if_neg (by omega), if_neg (by omega), if_pos h2]
theorem labR3 {n ob mb k : Nat} (h : n + 2 ≤ k) (h1 : k ≠ ob) (h2 : k = mb) : labR n ob mb k = 3 := by unfold labR; rw [if_neg (by omega), if_neg (by omega), if_neg h1, if_pos h2]
theorem labR4 {n ob mb k : Nat} (h : n + 2 ≤ k) (h1 : k ≠ ob) (h2 : mb < k) : labR n ob mb k = 4 := by unfold labR; rw [if_neg (by omega), if_neg (by omega), if_neg h1, if_neg (by omega), if_pos h2]
theorem labR5 {n ob mb k : Nat} (h : n + 2 ≤ k) (h1 : k ≠ ob) (h2 : k < mb) : labR n ob mb k = 5 := by unfold labR; rw [if_neg (by omega), if_neg (by omega), if_neg h1, if_neg (by omega), if_neg (by omega)]

/-- what Reduce holds while it builds -/
structure RMem (w wr : World) (lab : Nat → Nat) (mb ob : Nat) (gc oc : Array Value) (vT vP vU vN : Value) (g : Gr) (pr us : List Bool) (ns : List ByteArray) : Prop where
  old : ∀ k, k < w.heap.size → lab k = 0
  b : Below w.heap.size w wr
  gb : LBox lab 1 wr w.heap.size gc 25
  zb : LBox lab 1 wr (w.heap.size + 1) #[.slice none 0 0, .slice none 0 0, .int .i64 0, .slice none 0 0] 25
  oB : LBox lab 2 wr ob oc 25
  ml : lab mb = 3
  mlt : mb < wr.heap.size
  t : LRow lab 4 Kd.string 9 wr w.heap.size vT g.terms
  p : LRow lab 5 Kd.bool 4 wr w.heap.size vP pr
  u : LRow lab 5 Kd.bool 4 wr w.heap.size vU us
  n : LRow lab 6 Kd.string 9 wr w.heap.size vN ns
/-- other blocks alone have changed: labels 3 and from 7 on, and new ones -/
theorem RMem.step {w wr w1 : World} {lab lab' : Nat → Nat} {mb ob : Nat} {gc oc : Array Value} {vT vP vU vN : Value} {g : Gr} {pr us : List Bool} {ns : List ByteArray} {T : Nat → Prop}
    (h : RMem w wr lab mb ob gc oc vT vP vU vN g pr us ns) (k : Ch T wr w1) (hT : ∀ i, T i → lab i = 3 ∨ 7 ≤ lab i ∨ wr.heap.size ≤ i) (hl : ∀ i, i < wr.heap.size → lab i < 7 → lab' i = lab i) : RMem w w1 lab' mb ob gc oc vT vP vU vN g pr us ns := by
  have key : ∀ t, t ≠ 3 → t < 7 → ∀ i, i < wr.heap.size → lab i = t → ¬ T i ∧ lab' i = t := fun t h3 h7 i hi hlt => ⟨fun hTi => by
    rcases hT i hTi with h | h | h <;> omega, by rw [hl i hi (by omega)]; exact hlt⟩
  have hs := h.b.size
  exact ⟨fun i hi => by rw [hl i (by omega) (by rw [h.old i hi]; omega)]; exact h.old i hi,
    k.under h.b h.b.size (fun i hi => by
      rcases Nat.lt_or_ge i w.heap.size with hlt | hge
      · have := h.old i hlt; rcases hT i hi with h' | h' | h' <;> omega
      · exact hge),
    h.gb.step k (key 1 (by omega) (by omega)), h.zb.step k (key 1 (by omega) (by omega)), h.oB.step k (key 2 (by omega) (by omega)),
    by rw [hl mb h.mlt (by rw [h.ml]; omega)]; exact h.ml, Nat.lt_of_lt_of_le h.mlt k.size,
    h.t.step k (key 4 (by omega) (by omega)), h.p.step k (key 5 (by omega) (by omega)), h.u.step k (key 5 (by omega) (by omega)), h.n.step k (key 6 (by omega) (by omega))⟩

/-- a name more -/
theorem RMem.push {w W w7 : World} {lab : Nat → Nat} {mb ob : Nat} {gc : Array Value} {a c d vT vP vU vN v1 : Value} {g : Gr} {pr us : List Bool} {ns ns' : List ByteArray}
    (h : RMem w W lab mb ob gc #[a, vN, c, d] vT vP vU vN g pr us ns) (k : Ch (fun i => lab i = 6) W w7) (hr : LRow (labApp lab W.heap.size 6 99) 6 Kd.string 9 w7 w.heap.size v1 ns') :
    RMem w (w7.setCell ⟨ob, 1, none⟩ v1) (labApp lab W.heap.size 6 99) mb ob gc #[a, v1, c, d] vT vP vU v1 g pr us ns' := by
  have key : ∀ t, t ≠ 6 → t ≠ 99 → ∀ i, i < W.heap.size → lab i = t → ¬ (lab i = 6) ∧ labApp lab W.heap.size 6 99 i = t := fun t h6 h99 i hi hl =>
    ⟨fun e => h6 (hl.symm.trans e), labApp_keep hi hl h99⟩
  have hob : labApp lab W.heap.size 6 99 ob = 2 := labApp_keep h.oB.lt h.oB.l (by omega)
  have hs := h.b.size
  have ks := k.size
  have set1 : Ch (fun i => i = ob) w7 (w7.setCell ⟨ob, 1, none⟩ v1) := (Ch.refl (fun i => i = ob) w7).setCell (p := ⟨ob, 1, none⟩) (.inl rfl) _
  have hob0 : w.heap.size ≤ ob := by
    rcases Nat.lt_or_ge ob w.heap.size with hlt | hge
    · have := h.old ob hlt; have := h.oB.l; omega
    · exact hge
  have out : ∀ t, t ≠ 2 → ∀ i, i < w7.heap.size → labApp lab W.heap.size 6 99 i = t → ¬ (i = ob) := fun t h2 i _ hl e => by subst e; omega
  exact ⟨fun i hi => labApp_keep (by omega) (h.old i hi) (by omega),
    (k.under h.b hs (fun i hi => by
      rcases Nat.lt_or_ge i w.heap.size with hlt | hge
      · have := h.old i hlt; omega
      · exact hge)).setCell hob0 _,
    (h.gb.step k (key 1 (by omega) (by omega))).ch set1 (out 1 (by omega)), (h.zb.step k (key 1 (by omega) (by omega))).ch set1 (out 1 (by omega)),
    (h.oB.step k (key 2 (by omega) (by omega))).put 1 v1 rfl, labApp_keep h.mlt h.ml (by omega), by simp [World.setCell]; exact Nat.lt_of_lt_of_le h.mlt ks,
    (h.t.step k (key 4 (by omega) (by omega))).ch set1 (out 4 (by omega)), (h.p.step k (key 5 (by omega) (by omega))).ch set1 (out 5 (by omega)), (h.u.step k (key 5 (by omega) (by omega))).ch set1 (out 5 (by omega)),
    hr.ch set1 (out 6 (by omega))⟩
theorem Ch.of_grown1 {w w1 : World} {b : Nat} (h : w.grownBy w1 (some b)) : Ch (· = b) w w1 := (Ch.refl (· = b) w).grown h (fun x hx => by cases hx; exact .inl rfl)
theorem info_str : (Try.prog.info? 9).map (fun i => (i.zero, i.size, i.bytes)) = some (some (.string ⟨#[]⟩), 1, 16) := by kernel_rfl
theorem lawI : Maps.Keyed Try.prog 3 := Maps.int_keyed Try.underlying3
theorem wf_small (n : Int) (h0 : -1000 ≤ n) (h1 : n ≤ 1000000) : (Lit.int .i64 n).wf = true := WalkArith.wf_i64 (by omega)

theorem zeroI (w : World) : (zeroValue 3).run Try.prog w = .ok (.int .i64 0) w := by kernel_rfl
theorem info_int : (Try.prog.info? 3).map (fun i => (i.zero, i.size, i.bytes)) = some (some (.int .i64 0), 1, 8) := by kernel_rfl
theorem info_rul : (Try.prog.info? 42).map (fun i => (i.zero, i.size, i.bytes)) = some (some (.agg #[(.int .i64 0), (.slice none 0 0), (.int .i64 0)]), 3, 40) := by kernel_rfl
theorem kRul_mkM {w : World} {base : Nat} {ok : Nat → Prop} {x : Rul} {v1 : Value} (g1 : (Kd.int .i64).R 3 w base ok v1 x.body) : kRul.M w base ok x [.int .i64 x.head, v1, .int .i64 x.price] := ⟨[.int .i64 x.head], [v1, .int .i64 x.price], rfl, rfl, ⟨[v1], [.int .i64 x.price], rfl, ⟨v1, rfl, g1⟩, rfl⟩⟩

/-- a cell of the result's box is written -/
theorem RMem.putO {w W : World} {lab : Nat → Nat} {mb ob : Nat} {gc oc oc' : Array Value} {vT vP vU vN : Value} {g : Gr} {pr us : List Bool} {ns : List ByteArray}
    (h : RMem w W lab mb ob gc oc vT vP vU vN g pr us ns) (i : Nat) (u : Value) (hc : oc.setIfInBounds i u = oc') : RMem w (W.setCell ⟨ob, i, none⟩ u) lab mb ob gc oc' vT vP vU vN g pr us ns := by
  have set1 : Ch (fun i => i = ob) W (W.setCell ⟨ob, i, none⟩ u) := (Ch.refl (fun i => i = ob) W).setCell (p := ⟨ob, i, none⟩) (.inl rfl) _
  have hob0 : w.heap.size ≤ ob := by
    rcases Nat.lt_or_ge ob w.heap.size with hlt | hge
    · have := h.old ob hlt; have := h.oB.l; omega
    · exact hge
  have out : ∀ t, t ≠ 2 → ∀ i, i < W.heap.size → lab i = t → ¬ (i = ob) := fun t h2 i _ hl e => by subst e; have := h.oB.l; omega
  exact ⟨h.old, h.b.setCell hob0 _, h.gb.ch set1 (out 1 (by omega)), h.zb.ch set1 (out 1 (by omega)), h.oB.put i u hc, h.ml, by simp [World.setCell]; exact h.mlt,
    h.t.ch set1 (out 4 (by omega)), h.p.ch set1 (out 5 (by omega)), h.u.ch set1 (out 5 (by omega)), h.n.ch set1 (out 6 (by omega))⟩

/-- .. and in the loop over the rules -/
structure R2 (w wr : World) (lab : Nat → Nat) (mb ob n : Nat) (gc : Array Value) (vT vP vU vN s vR vF : Value) (g : Gr) (pr us : List Bool) (ns : List ByteArray) (D : DataW Unit) (rs : List Rul) (fr : List Int) : Prop where
  m : RMem w wr lab mb ob gc #[vT, vN, s, vR] vT vP vU vN g pr us ns
  mp : wr.ownsMap Try.prog 3 (plainElem Try.prog 3) mb n D
  r : LRow lab 7 kRul 42 wr w.heap.size vR rs
  f : LRow lab 8 (Kd.int .i64) 3 wr w.heap.size vF fr
section
variable {w W w1 : World} {lab lab' : Nat → Nat} {mb ob n : Nat} {gc : Array Value} {vT vP vU vN s vR vF v1 : Value} {g : Gr} {pr us : List Bool} {ns : List ByteArray} {D : DataW Unit} {rs rs' : List Rul} {fr fr' : List Int} {T : Nat → Prop}
theorem R2.step (h : R2 w W lab mb ob n gc vT vP vU vN s vR vF g pr us ns D rs fr) (k : Ch T W w1) (hT : ∀ i, T i → 9 ≤ lab i ∨ W.heap.size ≤ i) (hl : ∀ i, i < W.heap.size → lab i < 9 → lab' i = lab i) :
    R2 w w1 lab' mb ob n gc vT vP vU vN s vR vF g pr us ns D rs fr :=
  ⟨h.m.step k (fun i hi => by rcases hT i hi with h | h; exact .inr (.inl (by omega)); exact .inr (.inr h)) (fun i hi hlt => hl i hi (by omega)),
    ownsMap_ch h.mp k (fun ht => by rcases hT mb ht with h' | h'; have := h.m.ml; omega; have := h.m.mlt; omega),
    h.r.step k (fun i hi hi7 => ⟨fun ht => by rcases hT i ht with h' | h' <;> omega, by rw [hl i hi (by omega)]; exact hi7⟩),
    h.f.step k (fun i hi hi8 => ⟨fun ht => by rcases hT i ht with h' | h' <;> omega, by rw [hl i hi (by omega)]; exact hi8⟩)⟩
theorem R2.below (h : R2 w W lab mb ob n gc vT vP vU vN s vR vF g pr us ns D rs fr) (k : Below W.heap.size W w1) : R2 w w1 lab mb ob n gc vT vP vU vN s vR vF g pr us ns D rs fr :=
  h.step (T := fun _ => False) (Ch.of_below k) (fun _ hf => hf.elim) (fun _ _ _ => rfl)
/-- a rule more: its body's row (label 9) goes with it -/
theorem R2.pushR (h : R2 w W lab mb ob n gc vT vP vU vN s vR vF g pr us ns D rs fr) (k : Ch (fun i => lab i = 7) W w1) (hr : LRow (labApp lab W.heap.size 7 9) 7 kRul 42 w1 w.heap.size v1 rs') :
    R2 w (w1.setCell ⟨ob, 3, none⟩ v1) (labApp lab W.heap.size 7 9) mb ob n gc vT vP vU vN s v1 vF g pr us ns D rs' fr := by
  have hm := h.m.step (lab' := labApp lab W.heap.size 7 9) k (fun i hi => .inr (.inl (by omega))) (fun i hi hlt => labApp_keep hi rfl (by omega))
  have set1 : Ch (fun i => i = ob) w1 (w1.setCell ⟨ob, 3, none⟩ v1) := (Ch.refl (fun i => i = ob) w1).setCell (p := ⟨ob, 3, none⟩) (.inl rfl) _
  have out : ∀ t, t ≠ 2 → ∀ i, i < w1.heap.size → labApp lab W.heap.size 7 9 i = t → ¬ (i = ob) := fun t h2 i _ hl e => by subst e; have := hm.oB.l; omega
  refine ⟨hm.putO 3 v1 rfl, ?_, hr.ch set1 (out 7 (by omega)), ?_⟩
  · have h1 := ownsMap_ch h.mp k (by have := h.m.ml; omega)
    exact ownsMap_ch h1 set1 (fun e => by subst e; have := hm.oB.l; have := hm.ml; omega)
  · exact (h.f.step (lab' := labApp lab W.heap.size 7 9) k (fun i hi hi8 => ⟨by omega, labApp_keep hi hi8 (by omega)⟩)).ch set1 (out 8 (by omega))
theorem R2.pushF (h : R2 w W lab mb ob n gc vT vP vU vN s vR vF g pr us ns D rs fr) (k : Ch (fun i => lab i = 8) W w1) (hr : LRow (labApp lab W.heap.size 8 99) 8 (Kd.int .i64) 3 w1 w.heap.size v1 fr') :
    R2 w w1 (labApp lab W.heap.size 8 99) mb ob n gc vT vP vU vN s vR v1 g pr us ns D rs fr' :=
  ⟨h.m.step (lab' := labApp lab W.heap.size 8 99) k (fun i hi => .inr (.inl (by omega))) (fun i hi hlt => labApp_keep hi rfl (by omega)),
    ownsMap_ch h.mp k (by have := h.m.ml; omega), h.r.step k (fun i hi hi7 => ⟨by omega, labApp_keep hi hi7 (by omega)⟩), hr⟩
end
end Go.Proofs.Ytadednkdhblpfaa.Red
