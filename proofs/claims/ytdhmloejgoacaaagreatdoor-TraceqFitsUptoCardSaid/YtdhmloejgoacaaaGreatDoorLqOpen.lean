/- Queries that came in, opened. -/
import Derived.Test.YtdhmloejgoacaaaGreatDoorMw05
import Derived.Test.YtdhmloejgoacaaaGreatDoorBulk
import Derived.ProofKit
import Derived.OpenShut
import Derived.Lib.SmallJoins
import Derived.Deep.Slices
set_option linter.unusedVariables false
set_option linter.unusedSimpArgs false
namespace Go.Proofs.YtdhmloejgoacaaaGreatDoor
open Go.RowKit Go.Bl Go.Deep Go.WideShapes Go.Lq

theorem add_plain' {a : Addr} (h : a.spot = none) (j : Nat) : a.add j = ⟨a.block, a.off + j, none⟩ := by
  obtain ⟨b, o, s⟩ := a
  simp only at h
  subst h
  unfold Addr.add
  split <;> simp_all
section
variable {H : Type} {enc : TypeId × Value → H} {w : World} {base : Nat} {spare : Nat → Bool} {held : Bool}
def Mt.list (m : Mt) : List Value := [.int .i64 m.op, .string ⟨m.key.toArray⟩, .string ⟨m.val.toArray⟩]
set_option maxRecDepth 100000 in
theorem mt_list {fuel : Nat} {cs : List Value} {x : DataW H × List MemPlace} (hlc : cs.length = 3) (h : DataW.trod enc Tryz.prog w base spare held fuel 74 cs = some x) : ∃ m : Mt, cs = Mt.list m ∧ m.key.length + m.val.length ≤ Rows.uptoBulk x.1 := by
  obtain ⟨xs, n, _, rfl, hl, hlen, hf⟩ := DataW.trod_struct Tryz.underlying74 h
  have e3 : Tryz.prog.cellsOf 3 = 1 := by kernel_rfl
  have e9 : Tryz.prog.cellsOf 9 = 1 := by kernel_rfl
  clear h
  match cs, hlc, xs, hlen with
  | [c0, c1, c2], _, [y0, y1, y2], _ =>
    have h0 : DataW.trod enc Tryz.prog w base spare held n 3 [c0] = some y0 := by simpa [e3] using hf 0 _ rfl
    have h1 : DataW.trod enc Tryz.prog w base spare held n 9 [c1] = some y1 := by simpa [e9] using hf 1 _ rfl
    have h2 : DataW.trod enc Tryz.prog w base spare held n 9 [c2] = some y2 := by simpa [e9] using hf 2 _ rfl
    obtain ⟨n0, q0, _, _⟩ := DataW.trod_int Tryz.underlying3 h0
    obtain ⟨n1, q1, r1, _⟩ := DataW.trod_string Tryz.underlying9 h1
    obtain ⟨n2, q2, r2, _⟩ := DataW.trod_string Tryz.underlying9 h2
    simp only [List.cons.injEq, and_true] at q0 q1 q2
    subst q0 q1 q2 r1 r2
    refine ⟨⟨n0, n1.data.toList, n2.data.toList⟩, rfl, ?_⟩
    simp only [List.map_cons, List.map_nil, Rows.uptoBulk, Rows.uptoBulkAll]
    omega
theorem mt_open {fuel : Nat} {cs : List Value} {x : DataW H × List MemPlace} {a : Addr} (hc : w.cells? base a 3 = some cs) (h : DataW.trod enc Tryz.prog w base spare held fuel 74 cs = some x) : ∃ m : Mt, MtAt w a m ∧ m.key.length + m.val.length ≤ Rows.uptoBulk x.1 := by
  obtain ⟨hb, hlc, hcell⟩ := World.cells?_some hc
  obtain ⟨o, rfl, hbk⟩ := mt_list hlc h
  have g0 := hcell 0 (by omega)
  have hs : a.spot = none := World.cell?_spot (v := .int .i64 o.op) (by simpa [Addr.add, Mt.list] using g0)
  refine ⟨o, ⟨by simpa [Addr.add, Mt.list] using g0, ?_, ?_⟩, hbk⟩
  · rw [← add_plain' hs]; exact hcell 1 (by omega)
  · rw [← add_plain' hs]; exact hcell 2 (by omega)
instance : Inhabited Mt := ⟨⟨0, [], []⟩⟩
set_option maxRecDepth 100000 in
theorem mts_open {fuel : Nat} {v : Value} {x : DataW H × List MemPlace} (h : DataW.trod enc Tryz.prog w base spare held fuel 22 [v] = some x) : ∃ l : List Mt, Mts w v l ∧ l.length ≤ Rows.uptoBulk x.1 ∧ ∀ m ∈ l, m.key.length + m.val.length ≤ Rows.uptoBulk x.1 := by
  rcases open_slice Tryz.underlying22 h with ⟨hcs, _⟩ | ⟨a, len', cap', m, n, D, Pl, hcs, hb, hl, hm, hmm, hx, hel⟩
  · simp only [List.cons.injEq, and_true] at hcs
    subst hcs
    exact ⟨[], Mts.nil w, by simp, by simp⟩
  · simp only [List.cons.injEq, and_true] at hcs
    subst hcs
    have e3 : Tryz.prog.cellsOf 74 = 3 := by kernel_rfl
    rw [e3] at hel
    have hle : len' ≤ m := by rw [hmm]; split <;> omega
    have key : ∀ i, i < len' → ∃ o : Mt, MtAt w (a.add (i * 3)) o ∧ o.key.length + o.val.length ≤ Rows.uptoBulk (D i) := fun i hi => by
      obtain ⟨cs', h1, h2⟩ := hel i (by omega)
      exact mt_open h1 h2
    obtain ⟨f, hf⟩ := choose_lt key
    unfold maxLen at hm
    subst hx
    have hb1 := bulks.slice_le ((List.range len').map D) ((List.range (m - len')).map fun j => D (len' + j))
    have hb2 := bulks.slice_elems ((List.range len').map D) ((List.range (m - len')).map fun j => D (len' + j))
    simp only [List.length_map, List.length_range] at hb1
    refine ⟨(List.range len').map f, ⟨some a, cap', by simp, by simp; omega, fun i hi => ⟨a, rfl, ?_⟩⟩, by simp only [List.length_map, List.length_range]; omega, fun o ho => ?_⟩
    · simp only [List.length_map, List.length_range] at hi
      simpa using (hf i hi).1
    · obtain ⟨i, hi, rfl⟩ := List.mem_map.1 ho
      have hi' := List.mem_range.1 hi
      have h1 := (hf i hi').2
      have h2 : Rows.uptoBulk (D i) ≤ Rows.uptoBulkAll ((List.range len').map D) := bulks.part_le (List.mem_map.2 ⟨i, hi, rfl⟩)
      simp only at hb1 hb2 ⊢
      omega
set_option maxRecDepth 100000 in
/-- A query by value. -/
theorem qy_agg {r : Reach} {b0 : Nat} {v : Value} {d : DataW H} {p : List MemPlace} (hv : Value.okWide Tryz.prog w r b0 24 v) (h : DataW.Trod enc Tryz.prog w base spare held 24 v d p) :
    ∃ q : Qy, QyV w v q ∧ q.mat.length ≤ Rows.uptoBulk d ∧ q.tests.length ≤ Rows.uptoBulk d ∧ (∀ m ∈ q.mat, m.key.length + m.val.length ≤ Rows.uptoBulk d) ∧ ∀ m ∈ q.tests, m.key.length + m.val.length ≤ Rows.uptoBulk d := by
  obtain ⟨cs, rfl, hsz⟩ := okWide_struct Tryz.underlying24 hv
  obtain ⟨fuel, hf⟩ := h
  have e4 : Tryz.prog.cellsOf 24 = 4 := by kernel_rfl
  have e3 : Tryz.prog.cellsOf 3 = 1 := by kernel_rfl
  have e22 : Tryz.prog.cellsOf 22 = 1 := by kernel_rfl
  obtain ⟨cs⟩ := cs
  have hlc : cs.length = 4 := by simpa [Value.cells, e4] using hsz
  have hf' : DataW.trod enc Tryz.prog w base spare held fuel 24 cs = some (d, p) := by simpa [Value.cells] using hf
  obtain ⟨xs, n, _, hd, hl, hlen, hg⟩ := DataW.trod_struct Tryz.underlying24 hf'
  clear hf hf'
  match cs, hlc, xs, hlen with
  | [c0, c1, c2, c3], _, [y0, y1, y2, y3], _ =>
    have h0 : DataW.trod enc Tryz.prog w base spare held n 22 [c0] = some y0 := by simpa [e3, e22] using hg 0 _ rfl
    have h1 : DataW.trod enc Tryz.prog w base spare held n 3 [c1] = some y1 := by simpa [e3, e22] using hg 1 _ rfl
    have h2 : DataW.trod enc Tryz.prog w base spare held n 22 [c2] = some y2 := by simpa [e3, e22] using hg 2 _ rfl
    have h3 : DataW.trod enc Tryz.prog w base spare held n 3 [c3] = some y3 := by simpa [e3, e22] using hg 3 _ rfl
    obtain ⟨l0, m0, s0, t0⟩ := mts_open h0
    obtain ⟨l2, m2, s2, t2⟩ := mts_open h2
    obtain ⟨n1, q1, _, _⟩ := DataW.trod_int Tryz.underlying3 h1
    obtain ⟨n3, q3, _, _⟩ := DataW.trod_int Tryz.underlying3 h3
    simp only [List.cons.injEq, and_true] at q1 q3
    subst q1 q3
    simp only [Prod.mk.injEq] at hd
    obtain ⟨rfl, _⟩ := hd
    have hb : Rows.uptoBulk y0.1 ≤ Rows.uptoBulk (DataW.agg ([y0, y1, y2, y3].map (·.1))) ∧ Rows.uptoBulk y2.1 ≤ Rows.uptoBulk (DataW.agg ([y0, y1, y2, y3].map (·.1))) := by
      simp only [List.map_cons, List.map_nil, Rows.uptoBulk, Rows.uptoBulkAll]
      omega
    exact ⟨⟨l0, n1, l2, n3⟩, ⟨_, _, rfl, m0, m2⟩, by simp only; omega, by simp only; omega, fun m hm => Nat.le_trans (t0 m hm) hb.1, fun m hm => Nat.le_trans (t2 m hm) hb.2⟩
end
end Go.Proofs.YtdhmloejgoacaaaGreatDoor
