/- The cache law's operations that came in, opened. -/
import Derived.Test.YtoichcjlfpijeaaQOpen
import Derived.Test.YtoichcjlfpijeaaCStep
namespace Go.Proofs.Ytoichcjlfpijeaa
open Go.RowKit Go.Bl Go.Deep Go.WideShapes

instance : Inhabited COp := ⟨⟨0, ⟨#[]⟩, ⟨#[]⟩, ⟨#[]⟩, ⟨#[]⟩⟩⟩
def COp.list (o : COp) : List Value := [.int .i64 o.kind, .string o.t, .string o.k, .string o.s, .string o.x]
def COp.Fits (o : COp) : Prop := o.t.size ≤ 9223372036854775807 ∧ o.k.size ≤ 9223372036854775807 ∧ o.s.size ≤ 9223372036854775807 ∧ o.x.size ≤ 9223372036854775807
def COpAt (w : World) (ad : Addr) (o : COp) : Prop :=
  w.cell? ad = some (.int .i64 o.kind) ∧ w.cell? ⟨ad.block, ad.off + 1, none⟩ = some (.string o.t) ∧ w.cell? ⟨ad.block, ad.off + 2, none⟩ = some (.string o.k) ∧
  w.cell? ⟨ad.block, ad.off + 3, none⟩ = some (.string o.s) ∧ w.cell? ⟨ad.block, ad.off + 4, none⟩ = some (.string o.x)
structure COpsAt (w : World) (A : Option Addr) (len : Nat) (l : Nat → COp) : Prop where
  max : len ≤ 9223372036854775807
  op : ∀ i, i < len → ∃ ad, A = some ad ∧ COpAt w (ad.add (i * 5)) (l i)
theorem COpsAt.fr {w w' : World} {A : Option Addr} {len : Nat} {l : Nat → COp} (h : COpsAt w A len l) (hF : Fr [] w w') : COpsAt w' A len l :=
  ⟨h.max, fun i hi => by
    obtain ⟨ad, e, h0, h1, h2, h3, h4⟩ := h.op i hi
    exact ⟨ad, e, cell_fr hF h0 (by simp), cell_fr hF h1 (by simp), cell_fr hF h2 (by simp), cell_fr hF h3 (by simp), cell_fr hF h4 (by simp)⟩⟩

section
variable {H : Type} {enc : TypeId × Value → H} {w : World} {base : Nat} {spare : Nat → Bool} {held : Bool}
set_option maxRecDepth 100000 in
theorem cop_list {fuel : Nat} {cs : List Value} {x : DataW H × List MemPlace} (hlc : cs.length = 5) (h : DataW.trod enc Try.prog w base spare held fuel 52 cs = some x) : ∃ o : COp, cs = o.list := by
  obtain ⟨xs, n, _, rfl, hl, hlen, hf⟩ := DataW.trod_struct Try.underlying52 h
  have e3 : Try.prog.cellsOf 3 = 1 := by kernel_rfl
  have e9 : Try.prog.cellsOf 9 = 1 := by kernel_rfl
  clear h
  match cs, hlc, xs, hlen with
  | [c0, c1, c2, c3, c4], _, [y0, y1, y2, y3, y4], _ =>
    have h0 : DataW.trod enc Try.prog w base spare held n 3 [c0] = some y0 := by simpa [e3] using hf 0 _ rfl
    have h1 : DataW.trod enc Try.prog w base spare held n 9 [c1] = some y1 := by simpa [e9] using hf 1 _ rfl
    have h2 : DataW.trod enc Try.prog w base spare held n 9 [c2] = some y2 := by simpa [e9] using hf 2 _ rfl
    have h3 : DataW.trod enc Try.prog w base spare held n 9 [c3] = some y3 := by simpa [e9] using hf 3 _ rfl
    have h4 : DataW.trod enc Try.prog w base spare held n 9 [c4] = some y4 := by simpa [e9] using hf 4 _ rfl
    obtain ⟨n0, q0, _, b0⟩ := DataW.trod_int Try.underlying3 h0
    obtain ⟨n1, q1, _, _⟩ := DataW.trod_string Try.underlying9 h1
    obtain ⟨n2, q2, _, _⟩ := DataW.trod_string Try.underlying9 h2
    obtain ⟨n3, q3, _, _⟩ := DataW.trod_string Try.underlying9 h3
    obtain ⟨n4, q4, _, _⟩ := DataW.trod_string Try.underlying9 h4
    simp only [List.cons.injEq, and_true] at q0 q1 q2 q3 q4
    subst q0 q1 q2 q3 q4
    exact ⟨⟨n0, n1, n2, n3, n4⟩, rfl⟩
theorem cop_open {fuel : Nat} {cs : List Value} {x : DataW H × List MemPlace} {a : Addr} (hc : w.cells? base a 5 = some cs) (h : DataW.trod enc Try.prog w base spare held fuel 52 cs = some x) : ∃ o : COp, COpAt w a o := by
  obtain ⟨hb, hlc, hcell⟩ := World.cells?_some hc
  obtain ⟨o, rfl⟩ := cop_list hlc h
  have g0 := hcell 0 (by omega)
  have hs : a.spot = none := World.cell?_spot (v := .int .i64 o.kind) (by simpa [Addr.add, COp.list] using g0)
  refine ⟨o, by simpa [Addr.add, COp.list] using g0, ?_, ?_, ?_, ?_⟩
  · rw [← add_plain' hs]; exact hcell 1 (by omega)
  · rw [← add_plain' hs]; exact hcell 2 (by omega)
  · rw [← add_plain' hs]; exact hcell 3 (by omega)
  · rw [← add_plain' hs]; exact hcell 4 (by omega)
set_option maxRecDepth 100000 in
/-- An operation by value. -/
theorem cop_agg {r : Reach} {b0 : Nat} {v : Value} {d : DataW H} {p : List MemPlace} (hv : Value.okWide Try.prog w r b0 52 v) (h : DataW.Trod enc Try.prog w base spare held 52 v d p) : ∃ o : COp, v = .agg o.list.toArray ∧ True := by
  obtain ⟨cs, rfl, hsz⟩ := okWide_struct Try.underlying52 hv
  obtain ⟨fuel, hf⟩ := h
  have e6 : Try.prog.cellsOf 52 = 5 := by kernel_rfl
  obtain ⟨o, ho⟩ := cop_list (by simpa [Value.cells, e6] using hsz) hf
  refine ⟨o, ?_, trivial⟩
  have : cs.toList = o.list := by simpa [Value.cells] using ho
  rw [← this]
set_option maxRecDepth 100000 in
theorem cops_open {fuel : Nat} {A : Option Addr} {len cap : Nat} {x : DataW H × List MemPlace} (h : DataW.trod enc Try.prog w base spare held fuel 47 [.slice A len cap] = some x) : ∃ l, COpsAt w A len l := by
  rcases open_slice Try.underlying47 h with ⟨hcs, _⟩ | ⟨a, len', cap', m, n, D, Pl, hcs, hb, hl, hm, hmm, _, hel⟩
  · simp only [List.cons.injEq, Value.slice.injEq, and_true] at hcs
    obtain ⟨rfl, rfl, rfl⟩ := hcs
    exact ⟨fun _ => default, by omega, fun i hi => by omega⟩
  · simp only [List.cons.injEq, Value.slice.injEq, and_true] at hcs
    obtain ⟨rfl, rfl, rfl⟩ := hcs
    have e6 : Try.prog.cellsOf 52 = 5 := by kernel_rfl
    rw [e6] at hel
    have hle : len ≤ m := by rw [hmm]; split <;> omega
    have key : ∀ i, i < len → ∃ o : COp, COpAt w (a.add (i * 5)) o := fun i hi => by
      obtain ⟨cs', h1, h2⟩ := hel i (by omega)
      exact cop_open h1 h2
    obtain ⟨l, hl'⟩ := choose_lt key
    unfold maxLen at hm
    exact ⟨l, by omega, fun i hi => ⟨a, rfl, hl' i hi⟩⟩
end
end Go.Proofs.Ytoichcjlfpijeaa
