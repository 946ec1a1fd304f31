/- An argument of type api.Grammar, opened: its rows are read. -/
import Derived.Test.YtadednkdhblpfaaGram
import Derived.Deep.Slices
import Derived.Deep.Strs
import Derived.Lib.SmallJoins
namespace Go.Proofs.Ytadednkdhblpfaa.B
open Go.RowKit Go.Proofs.YtadednkdhblpfaaW.PrintWords Go.Proofs.YtadednkdhblpfaaW.PrintLast Go.Proofs.YtadednkdhblpfaaW.PrintMore
set_option linter.unusedVariables false
set_option linter.unusedSimpArgs false

instance : Inhabited Rul := ⟨Rul.zero⟩

section
variable {H : Type} {enc : TypeId × Value → H} {w : World} {base : Nat} {spare : Nat → Bool} {held : Bool}
/-- a slice that came in is a row that is read -/
theorem C_of_trod {α : Type} [Inhabited α] (d : Kd α) {t e : TypeId} {n : Nat} {v : Value} {x : DataW H × List MemPlace} (Q : α → Prop) (ht : Try.prog.underlying t = some (.slice e)) (hsz : Try.prog.cellsOf e = d.sz)
    (hel : ∀ n cs x, DataW.trod enc Try.prog w base spare held n e cs = some x → ∃ p, d.K w p cs ∧ Q p) (h : DataW.trod enc Try.prog w base spare held n t [v] = some x) :
    ∃ A c xs, v = .slice A (xs : List α).length c ∧ xs.length ≤ c ∧ d.C w A xs.length xs ∧ ∀ p ∈ xs, Q p := by
  rcases Deep.open_slice ht h with ⟨hc, _⟩ | ⟨a, len, cap, m, n', D, Pl, hc, hb, hl, hm, hmm, hx, hcells⟩
  · injection hc with hc _
    exact ⟨none, 0, [], hc, Nat.le_refl _, Kd.C_nil d w, by simp⟩
  · injection hc with hc _
    have hlm : len ≤ m := by rw [hmm]; split <;> omega
    obtain ⟨f, hf⟩ := Deep.choose_lt (α := α) (p := fun i p => ∃ cs', w.cells? base (a.add (i * d.sz)) d.sz = some cs' ∧ d.K w p cs' ∧ Q p) (n := len) (fun i hi => by
      obtain ⟨cs', h1, h2⟩ := hcells i (by omega)
      obtain ⟨p, hk, hq⟩ := hel _ _ _ h2
      rw [hsz] at h1
      exact ⟨p, cs', h1, hk, hq⟩)
    refine ⟨some a, cap, (List.range len).map f, by rw [hc]; simp, by simpa using hl, ?_, ?_⟩
    · refine ⟨rfl, ?_, fun _ => ⟨a, rfl, fun j p hj => ?_⟩⟩
      · have : maxLen = 9223372036854775807 := rfl
        simp; omega
      · have hjl : j < len := by
          have := (List.getElem?_eq_some_iff.1 hj).1; simpa using this
        have hp : p = f j := by
          rw [List.getElem?_map, List.getElem?_range hjl] at hj; simpa using hj.symm
        subst hp
        obtain ⟨cs', h1, h2, _⟩ := hf j hjl
        obtain ⟨_, hlen, hcell⟩ := World.cells?_some h1
        refine ⟨cs', hlen, h2, fun i u hu => ?_⟩
        have hi : i < d.sz := by have := (List.getElem?_eq_some_iff.1 hu).1; omega
        rw [← Deep.add_add, hcell i hi]; exact hu
    · intro p hp
      obtain ⟨j, hj, rfl⟩ := List.mem_map.1 hp
      obtain ⟨_, _, _, hq⟩ := hf j (by simpa using hj)
      exact hq
theorem el_string (n : Nat) (cs : List Value) (x : DataW H × List MemPlace) (h : DataW.trod enc Try.prog w base spare held n 9 cs = some x) : ∃ s : ByteArray, Kd.string.K w s cs ∧ s.size ≤ maxLen := by
  obtain ⟨s, rfl, _, hs⟩ := DataW.trod_string Try.underlying9 h
  exact ⟨s, rfl, hs⟩
theorem el_int (n : Nat) (cs : List Value) (x : DataW H × List MemPlace) (h : DataW.trod enc Try.prog w base spare held n 3 cs = some x) : ∃ p : Int, (Kd.int .i64).K w p cs ∧ True := by
  obtain ⟨s, rfl, _, hs⟩ := DataW.trod_int Try.underlying3 h
  exact ⟨s, rfl, trivial⟩
theorem list3 {α : Type} {l : List α} (h : l.length = 3) : ∃ a b c, l = [a, b, c] := by
  match l, h with
  | [a, b, c], _ => exact ⟨a, b, c, rfl⟩
theorem cells_int : Try.prog.cellsOf 3 = 1 := by kernel_rfl
theorem cells_string : Try.prog.cellsOf 9 = 1 := by kernel_rfl
theorem cells_rule : Try.prog.cellsOf 42 = 3 := by kernel_rfl
theorem cells_ints : Try.prog.cellsOf 28 = 1 := by kernel_rfl
theorem cells_strings : Try.prog.cellsOf 22 = 1 := by kernel_rfl
theorem cells_rules : Try.prog.cellsOf 23 = 1 := by kernel_rfl
theorem cells_gr : Try.prog.cellsOf 25 = 4 := by kernel_rfl
theorem el_rule (n : Nat) (cs : List Value) (x : DataW H × List MemPlace) (h : DataW.trod enc Try.prog w base spare held n 42 cs = some x) : ∃ r : Rul, kRul.K w r cs ∧ True := by
  obtain ⟨y0, y1, y2, m, _, hl, h0, h1, h2⟩ := Deep.trod_struct3 Try.underlying42 h
  rw [cells_rule] at hl
  obtain ⟨a, b, c, rfl⟩ := list3 hl
  simp only [cells_int, cells_ints, List.drop_zero, List.take_succ_cons, List.take_zero, List.drop_succ_cons] at h0 h1 h2
  obtain ⟨i0, e0, _, _⟩ := DataW.trod_int Try.underlying3 h0
  obtain ⟨i2, e2, _, _⟩ := DataW.trod_int Try.underlying3 h2
  obtain ⟨A1, c1, xs, rfl, hl1, hC, _⟩ := C_of_trod (Kd.int .i64) (fun _ => True) Try.underlying28 cells_int el_int h1
  injection e0 with e0 _
  injection e2 with e2 _
  subst e0 e2
  exact ⟨⟨i0, xs, i2⟩, kRul_mk w ⟨i0, xs, i2⟩ hl1 hC, trivial⟩

/-- A Grammar that came in. -/
theorem open_gr {r : Reach} {b0 : Nat} {v : Value} {D : DataW H} {p : List MemPlace} (hv : Value.okWide Try.prog w r b0 25 v) (h : DataW.Trod enc Try.prog w base spare held 25 v D p) :
    ∃ (At : Option Addr) (ct : Nat) (An : Option Addr) (cn : Nat) (Ar : Option Addr) (cr : Nat) (g : Gr), v = .agg #[.slice At g.terms.length ct, .slice An g.nonterms.length cn, .int .i64 g.start, .slice Ar g.rules.length cr] ∧ GrC w At ct An cn Ar cr g := by
  obtain ⟨cs, rfl, hsz⟩ := WideShapes.okWide_struct Try.underlying25 hv
  obtain ⟨k0, k1, k2, k3, rfl⟩ := Joins.array4 (hsz.trans cells_gr)
  obtain ⟨fuel, hf⟩ := h
  obtain ⟨y0, y1, y2, y3, m, _, hl, h0, h1, h2, h3⟩ := Joins.trod_struct4 Try.underlying25 hf
  simp only [Value.cells, cells_int, cells_strings, cells_rules, List.drop_zero, List.take_succ_cons, List.take_zero, List.drop_succ_cons] at h0 h1 h2 h3
  obtain ⟨At, ct, ts, rfl, lt, hCt, hst⟩ := C_of_trod Kd.string (fun s => s.size ≤ maxLen) Try.underlying22 cells_string el_string h0
  obtain ⟨An, cn, ns, rfl, ln, hCn, hsn⟩ := C_of_trod Kd.string (fun s => s.size ≤ maxLen) Try.underlying22 cells_string el_string h1
  obtain ⟨st, e2, _, _⟩ := DataW.trod_int Try.underlying3 h2
  obtain ⟨Ar, cr, rs, rfl, lr, hCr, _⟩ := C_of_trod kRul (fun _ => True) Try.underlying23 cells_rule el_rule h3
  injection e2 with e2 _
  subst e2
  exact ⟨At, ct, An, cn, Ar, cr, ⟨ts, ns, st, rs⟩, rfl, ⟨hCt, lt, hCn, ln, hCr, lr, hst, hsn⟩⟩
end
end Go.Proofs.Ytadednkdhblpfaa.B
