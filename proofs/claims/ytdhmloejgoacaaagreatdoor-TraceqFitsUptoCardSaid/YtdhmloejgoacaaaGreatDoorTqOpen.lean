/- Queries of traces that came in, opened. -/
import Derived.Test.YtdhmloejgoacaaaGreatDoorLqOpen
import Derived.Test.YtdhmloejgoacaaaGreatDoorMw24
set_option linter.unusedVariables false
set_option linter.unusedSimpArgs false
namespace Go.Proofs.YtdhmloejgoacaaaGreatDoor
open Go.RowKit Go.Bl Go.Deep Go.WideShapes Go.Lq Go.Tq
section
variable {H : Type} {enc : TypeId × Value → H} {w : World} {base : Nat} {spare : Nat → Bool} {held : Bool}
set_option maxRecDepth 100000 in
theorem st_list {fuel : Nat} {cs : List Value} {x : DataW H × List MemPlace} (hlc : cs.length = 3) (h : DataW.trod enc Tryz.prog w base spare held fuel 45 cs = some x) :
    ∃ (t : St) (m : Value), cs = [.string ⟨t.name.toArray⟩, .int .i64 t.least, m] ∧ Mts w m t.mat ∧ t.name.length ≤ Rows.uptoBulk x.1 ∧ t.mat.length ≤ Rows.uptoBulk x.1 ∧ ∀ y ∈ t.mat, y.key.length + y.val.length ≤ Rows.uptoBulk x.1 := by
  obtain ⟨xs, n, _, rfl, hl, hlen, hf⟩ := DataW.trod_struct Tryz.underlying45 h
  have e3 : Tryz.prog.cellsOf 2 = 1 := by kernel_rfl
  have e9 : Tryz.prog.cellsOf 9 = 1 := by kernel_rfl
  have e22 : Tryz.prog.cellsOf 22 = 1 := by kernel_rfl
  clear h
  match cs, hlc, xs, hlen with
  | [c0, c1, c2], _, [y0, y1, y2], _ =>
    have h0 : DataW.trod enc Tryz.prog w base spare held n 9 [c0] = some y0 := by simpa [e9] using hf 0 _ rfl
    have h1 : DataW.trod enc Tryz.prog w base spare held n 2 [c1] = some y1 := by simpa [e3] using hf 1 _ rfl
    have h2 : DataW.trod enc Tryz.prog w base spare held n 22 [c2] = some y2 := by simpa [e22] using hf 2 _ rfl
    obtain ⟨n0, q0, r0, _⟩ := DataW.trod_string Tryz.underlying9 h0
    obtain ⟨n1, q1, _, _⟩ := DataW.trod_int Tryz.underlying2 h1
    obtain ⟨l, m, s, t⟩ := mts_open h2
    simp only [List.cons.injEq, and_true] at q0 q1
    subst q0 q1
    have hb : Rows.uptoBulk y0.1 ≤ Rows.uptoBulk (DataW.agg ([y0, y1, y2].map (·.1))) ∧ Rows.uptoBulk y2.1 ≤ Rows.uptoBulk (DataW.agg ([y0, y1, y2].map (·.1))) := by
      simp only [List.map_cons, List.map_nil, Rows.uptoBulk, Rows.uptoBulkAll]
      omega
    have hn : n0.data.toList.length ≤ Rows.uptoBulk y0.1 := by
      rw [r0]
      simp only [Rows.uptoBulk]
      omega
    exact ⟨⟨n0.data.toList, n1, l⟩, c2, rfl, m, Nat.le_trans hn hb.1, Nat.le_trans s hb.2, fun y hy => Nat.le_trans (t y hy) hb.2⟩
set_option maxRecDepth 100000 in
/-- A query by value. -/
theorem tq_agg {r : Reach} {b0 : Nat} {v : Value} {d : DataW H} {p : List MemPlace} (hv : Value.okWide Tryz.prog w r b0 47 v) (h : DataW.Trod enc Tryz.prog w base spare held 47 v d p) :
    ∃ q : Tq, TqV w v q ∧ q.first.mat.length ≤ Rows.uptoBulk d ∧ q.second.mat.length ≤ Rows.uptoBulk d := by
  obtain ⟨cs, rfl, hsz⟩ := okWide_struct Tryz.underlying47 hv
  obtain ⟨fuel, hf⟩ := h
  have e8 : Tryz.prog.cellsOf 47 = 8 := by kernel_rfl
  have e45 : Tryz.prog.cellsOf 45 = 3 := by kernel_rfl
  have e3 : Tryz.prog.cellsOf 3 = 1 := by kernel_rfl
  obtain ⟨cs⟩ := cs
  have hlc : cs.length = 8 := by simpa [Value.cells, e8] using hsz
  have hf' : DataW.trod enc Tryz.prog w base spare held fuel 47 cs = some (d, p) := by simpa [Value.cells] using hf
  obtain ⟨xs, n, _, hd, hl, hlen, hg⟩ := DataW.trod_struct Tryz.underlying47 hf'
  clear hf hf'
  match cs, hlc, xs, hlen with
  | [c0, c1, c2, c3, c4, c5, c6, c7], _, [y0, y1, y2, y3], _ =>
    have h0 : DataW.trod enc Tryz.prog w base spare held n 45 [c0, c1, c2] = some y0 := by simpa [e3, e45] using hg 0 _ rfl
    have h1 : DataW.trod enc Tryz.prog w base spare held n 45 [c3, c4, c5] = some y1 := by simpa [e3, e45] using hg 1 _ rfl
    have h2 : DataW.trod enc Tryz.prog w base spare held n 3 [c6] = some y2 := by simpa [e3, e45] using hg 2 _ rfl
    have h3 : DataW.trod enc Tryz.prog w base spare held n 3 [c7] = some y3 := by simpa [e3, e45] using hg 3 _ rfl
    obtain ⟨t1, m1, k1, u1, a1, b1, d1⟩ := st_list rfl h0
    obtain ⟨t2, m2, k2, u2, a2, b2, d2⟩ := st_list rfl h1
    obtain ⟨n1, q1, _, _⟩ := DataW.trod_int Tryz.underlying3 h2
    obtain ⟨n3, q3, _, _⟩ := DataW.trod_int Tryz.underlying3 h3
    simp only [List.cons.injEq, and_true] at q1 q3 k1 k2
    obtain ⟨rfl, rfl, rfl⟩ := k1
    obtain ⟨rfl, rfl, rfl⟩ := k2
    subst q1 q3
    simp only [Prod.mk.injEq] at hd
    obtain ⟨rfl, _⟩ := hd
    have hb : Rows.uptoBulk y0.1 ≤ Rows.uptoBulk (DataW.agg ([y0, y1, y2, y3].map (·.1))) ∧ Rows.uptoBulk y1.1 ≤ Rows.uptoBulk (DataW.agg ([y0, y1, y2, y3].map (·.1))) := by
      simp only [List.map_cons, List.map_nil, Rows.uptoBulk, Rows.uptoBulkAll]
      omega
    exact ⟨⟨t1, t2, n1, n3⟩, ⟨_, _, rfl, u1, u2⟩, Nat.le_trans b1 hb.1, Nat.le_trans b2 hb.2⟩
end
end Go.Proofs.YtdhmloejgoacaaaGreatDoor
