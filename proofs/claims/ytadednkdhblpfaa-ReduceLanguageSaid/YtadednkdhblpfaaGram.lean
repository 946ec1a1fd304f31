/- Grammars as they lie in memory: the kinds of rules and grammars, and reading them. -/
import Derived.Test.YtadednkdhblpfaaBase
namespace Go.Proofs.Ytadednkdhblpfaa.B
open Go.RowKit Go.Proofs.YtadednkdhblpfaaW.PrintWords Go.Proofs.YtadednkdhblpfaaW.PrintLast Go.Proofs.YtadednkdhblpfaaW.PrintMore
set_option linter.unusedVariables false
set_option linter.unusedSimpArgs false

structure Rul where
  head : Int
  body : List Int
  price : Int
deriving DecidableEq
def Rul.zero : Rul := ⟨0, [], 0⟩
def kRul : Kd Rul := Kd.iso (Kd.pair (Kd.int .i64) (Kd.pair (Kd.slice 3 (Kd.int .i64)) (Kd.int .i64))) (fun x : Rul => (x.head, x.body, x.price))
theorem kRul_sz : kRul.sz = 3 := rfl
theorem kRul_open {w : World} {x : Rul} {cs : List Value} (h : kRul.K w x cs) : ∃ A c, cs = [.int .i64 x.head, .slice A x.body.length c, .int .i64 x.price] ∧ x.body.length ≤ c ∧ (Kd.int .i64).C w A x.body.length x.body := by
  obtain ⟨_, _, rfl, rfl, ⟨_, _, rfl, ⟨A1, c1, rfl, l1, g1⟩, rfl⟩⟩ := h
  exact ⟨A1, c1, rfl, l1, g1⟩
theorem kRul_mk (w : World) (x : Rul) {A : Option Addr} {c : Nat} (l : x.body.length ≤ c) (g : (Kd.int .i64).C w A x.body.length x.body) : kRul.K w x [.int .i64 x.head, .slice A x.body.length c, .int .i64 x.price] :=
  ⟨[.int .i64 x.head], [.slice A x.body.length c, .int .i64 x.price], rfl, rfl, ⟨[.slice A x.body.length c], [.int .i64 x.price], rfl, ⟨A, c, rfl, l, g⟩, rfl⟩⟩

/-- A rule as a value. -/
def RulV (w : World) (v : Value) (x : Rul) : Prop := ∃ A c, v = .agg #[.int .i64 x.head, .slice A x.body.length c, .int .i64 x.price] ∧ x.body.length ≤ c ∧ (Kd.int .i64).C w A x.body.length x.body

/-- A rule of a row that is read. -/
theorem at_rul {w : World} {A : Option Addr} {n : Nat} {xs : List Rul} (h : Kd.C kRul w A n xs) (k : Nat) (hk : k < n) :
    ∃ ad A1 c1, A = some ad ∧ w.cell? (ad.add (k * 3)) = some (.int .i64 (rdOf Rul.zero xs k).head) ∧
      w.cell? ⟨(ad.add (k * 3)).block, (ad.add (k * 3)).off + 1, none⟩ = some (.slice A1 (rdOf Rul.zero xs k).body.length c1) ∧ w.cell? ⟨(ad.add (k * 3)).block, (ad.add (k * 3)).off + 2, none⟩ = some (.int .i64 (rdOf Rul.zero xs k).price) ∧
      (rdOf Rul.zero xs k).body.length ≤ c1 ∧ (Kd.int .i64).C w A1 (rdOf Rul.zero xs k).body.length (rdOf Rul.zero xs k).body := by
  obtain ⟨ad, c, e, _, hK, hc⟩ := Kd.C_get h Rul.zero (k : Int) (by omega) (by omega)
  obtain ⟨A1, c1, rfl, l, g⟩ := kRul_open hK
  have h0 := hc 0 _ rfl
  have h1 := hc 1 _ rfl
  have h2 := hc 2 _ rfl
  exact ⟨ad, A1, c1, e, h0, by rw [← add_field ad (k * 3) 1 (by omega)]; exact h1, by rw [← add_field ad (k * 3) 2 (by omega)]; exact h2, l, g⟩

/-- A grammar. -/
structure Gr where
  terms : List ByteArray
  nonterms : List ByteArray
  start : Int
  rules : List Rul
def Gr.zero : Gr := ⟨[], [], 0, []⟩

/-- A grammar's four cells, read. -/
structure GrC (w : World) (At : Option Addr) (ct : Nat) (An : Option Addr) (cn : Nat) (Ar : Option Addr) (cr : Nat) (g : Gr) : Prop where
  terms : Kd.C Kd.string w At g.terms.length g.terms
  lt : g.terms.length ≤ ct
  nonterms : Kd.C Kd.string w An g.nonterms.length g.nonterms
  ln : g.nonterms.length ≤ cn
  rules : Kd.C kRul w Ar g.rules.length g.rules
  lr : g.rules.length ≤ cr
  st : ∀ s ∈ g.terms, s.size ≤ maxLen
  sn : ∀ s ∈ g.nonterms, s.size ≤ maxLen
theorem GrC.below {w w1 : World} {At : Option Addr} {ct : Nat} {An : Option Addr} {cn : Nat} {Ar : Option Addr} {cr : Nat} {g : Gr} (h : GrC w At ct An cn Ar cr g) (hb : Below w.heap.size w w1) : GrC w1 At ct An cn Ar cr g :=
  ⟨Kd.C_below h.terms hb, h.lt, Kd.C_below h.nonterms hb, h.ln, Kd.C_below h.rules hb, h.lr, h.st, h.sn⟩

end Go.Proofs.Ytadednkdhblpfaa.B
