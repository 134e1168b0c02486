/- A slice of operations that came in, opened. -/
import Derived.Test.YtoichcjlfpijeaaQOpsAt
import Derived.Test.YtoichcjlfpijeaaProg
import Derived.ProofKit
import Derived.OpenShut
import Derived.Lib.SmallJoins
import Derived.Deep.Slices
namespace Go.Proofs.Ytoichcjlfpijeaa
open Go.RowKit Go.Bl Go.Deep Go.WideShapes

instance : Inhabited QOp := ⟨⟨0, ⟨#[]⟩, 0, 0, 0, 0⟩⟩
theorem add_plain' {a : Addr} (h : a.spot = none) (j : Nat) : a.add j = ⟨a.block, a.off + j, none⟩ := by
  obtain ⟨b, o, s⟩ := a
  simp only at h
  subst h
  unfold Addr.add
  split <;> simp_all

section
variable {H : Type} {enc : TypeId × Value → H} {w : World} {base : Nat} {spare : Nat → Bool} {held : Bool}

theorem one_of {cs : List Value} {v : Value} (h : cs = [v]) : cs[0]? = some v := by rw [h]; rfl

def QOp.Fits (o : QOp) : Prop := (-9223372036854775808 ≤ o.kind ∧ o.kind ≤ 9223372036854775807) ∧ (-9223372036854775808 ≤ o.cost ∧ o.cost ≤ 9223372036854775807) ∧ (-9223372036854775808 ≤ o.now ∧ o.now ≤ 9223372036854775807)
def QOp.list (o : QOp) : List Value := [.int .i64 o.kind, .string o.name, .int .i64 o.rate, .int .i64 o.burst, .int .i64 o.cost, .int .i64 o.now]
set_option maxRecDepth 100000 in
theorem op_list {fuel : Nat} {cs : List Value} {x : DataW H × List MemPlace} (hlc : cs.length = 6) (h : DataW.trod enc Try.prog w base spare held fuel 29 cs = some x) : ∃ o : QOp, cs = o.list ∧ o.Fits := by
  obtain ⟨xs, n, _, rfl, hl, hlen, hf⟩ := DataW.trod_struct Try.underlying29 h
  have e3 : Try.prog.cellsOf 3 = 1 := by kernel_rfl
  have e2 : Try.prog.cellsOf 2 = 1 := by kernel_rfl
  have e9 : Try.prog.cellsOf 9 = 1 := by kernel_rfl
  clear h
  match cs, hlc, xs, hlen with
  | [c0, c1, c2, c3, c4, c5], _, [y0, y1, y2, y3, y4, y5], _ =>
    have h0 : DataW.trod enc Try.prog w base spare held n 3 [c0] = some y0 := by simpa [e3] using hf 0 _ rfl
    have h1 : DataW.trod enc Try.prog w base spare held n 9 [c1] = some y1 := by simpa [e9] using hf 1 _ rfl
    have h2 : DataW.trod enc Try.prog w base spare held n 2 [c2] = some y2 := by simpa [e2] using hf 2 _ rfl
    have h3 : DataW.trod enc Try.prog w base spare held n 2 [c3] = some y3 := by simpa [e2] using hf 3 _ rfl
    have h4 : DataW.trod enc Try.prog w base spare held n 2 [c4] = some y4 := by simpa [e2] using hf 4 _ rfl
    have h5 : DataW.trod enc Try.prog w base spare held n 2 [c5] = some y5 := by simpa [e2] using hf 5 _ rfl
    obtain ⟨n0, q0, _, b0⟩ := DataW.trod_int Try.underlying3 h0
    obtain ⟨n1, q1, _, _⟩ := DataW.trod_string Try.underlying9 h1
    obtain ⟨n2, q2, _, _⟩ := DataW.trod_int Try.underlying2 h2
    obtain ⟨n3, q3, _, _⟩ := DataW.trod_int Try.underlying2 h3
    obtain ⟨n4, q4, _, b4⟩ := DataW.trod_int Try.underlying2 h4
    obtain ⟨n5, q5, _, b5⟩ := DataW.trod_int Try.underlying2 h5
    simp only [List.cons.injEq, and_true] at q0 q1 q2 q3 q4 q5
    subst q0 q1 q2 q3 q4 q5
    exact ⟨⟨n0, n1, n2, n3, n4, n5⟩, rfl, bounds_i64 b0, bounds_i64 b4, bounds_i64 b5⟩

theorem op_open {fuel : Nat} {cs : List Value} {x : DataW H × List MemPlace} {a : Addr} (hc : w.cells? base a 6 = some cs) (h : DataW.trod enc Try.prog w base spare held fuel 29 cs = some x) :
    ∃ o : QOp, OpAt w a o ∧ (-9223372036854775808 ≤ o.kind ∧ o.kind ≤ 9223372036854775807) ∧ (-9223372036854775808 ≤ o.cost ∧ o.cost ≤ 9223372036854775807) ∧ (-9223372036854775808 ≤ o.now ∧ o.now ≤ 9223372036854775807) := by
  obtain ⟨hb, hlc, hcell⟩ := World.cells?_some hc
  obtain ⟨o, rfl, hB⟩ := op_list hlc h
  have g0 := hcell 0 (by omega)
  have hs : a.spot = none := World.cell?_spot (v := .int .i64 o.kind) (by simpa [Addr.add, QOp.list] using g0)
  refine ⟨o, ⟨by simpa [Addr.add, QOp.list] using g0, ?_, ?_, ?_, ?_, ?_⟩, hB⟩
  · rw [← add_plain' hs]; exact hcell 1 (by omega)
  · rw [← add_plain' hs]; exact hcell 2 (by omega)
  · rw [← add_plain' hs]; exact hcell 3 (by omega)
  · rw [← add_plain' hs]; exact hcell 4 (by omega)
  · rw [← add_plain' hs]; exact hcell 5 (by omega)

set_option maxRecDepth 100000 in
/-- An operation by value. -/
theorem op_agg {r : Reach} {b0 : Nat} {v : Value} {d : DataW H} {p : List MemPlace} (hv : Value.okWide Try.prog w r b0 29 v) (h : DataW.Trod enc Try.prog w base spare held 29 v d p) : ∃ o : QOp, v = .agg o.list.toArray ∧ o.Fits := by
  obtain ⟨cs, rfl, hsz⟩ := okWide_struct Try.underlying29 hv
  obtain ⟨fuel, hf⟩ := h
  have e6 : Try.prog.cellsOf 29 = 6 := by kernel_rfl
  obtain ⟨o, ho, hB⟩ := op_list (by simpa [Value.cells, e6] using hsz) hf
  refine ⟨o, ?_, hB⟩
  have : cs.toList = o.list := by simpa [Value.cells] using ho
  rw [← this]

set_option maxRecDepth 100000 in
theorem ops_open {fuel : Nat} {A : Option Addr} {len cap : Nat} {x : DataW H × List MemPlace} (h : DataW.trod enc Try.prog w base spare held fuel 22 [.slice A len cap] = some x) : ∃ l, OpsAt w A len l := by
  rcases open_slice Try.underlying22 h with ⟨hcs, _⟩ | ⟨a, len', cap', m, n, D, Pl, hcs, hb, hl, hm, hmm, _, hel⟩
  · simp only [List.cons.injEq, Value.slice.injEq, and_true] at hcs
    obtain ⟨rfl, rfl, rfl⟩ := hcs
    exact ⟨fun _ => default, by omega, fun i hi => by omega, fun i hi => by omega, fun i hi => by omega, fun i hi => by omega⟩
  · simp only [List.cons.injEq, Value.slice.injEq, and_true] at hcs
    obtain ⟨rfl, rfl, rfl⟩ := hcs
    have e6 : Try.prog.cellsOf 29 = 6 := by kernel_rfl
    rw [e6] at hel
    have hle : len ≤ m := by rw [hmm]; split <;> omega
    have key : ∀ i, i < len → ∃ o : QOp, OpAt w (a.add (i * 6)) o ∧ (-9223372036854775808 ≤ o.kind ∧ o.kind ≤ 9223372036854775807) ∧ (-9223372036854775808 ≤ o.cost ∧ o.cost ≤ 9223372036854775807) ∧ (-9223372036854775808 ≤ o.now ∧ o.now ≤ 9223372036854775807) := fun i hi => by
      obtain ⟨cs', h1, h2⟩ := hel i (by omega)
      exact op_open h1 h2
    obtain ⟨l, hl'⟩ := choose_lt key
    unfold maxLen at hm
    exact ⟨l, by omega, fun i hi => ⟨a, rfl, (hl' i hi).1⟩, fun i hi => (hl' i hi).2.1, fun i hi => (hl' i hi).2.2.1, fun i hi => (hl' i hi).2.2.2⟩
end
end Go.Proofs.Ytoichcjlfpijeaa
