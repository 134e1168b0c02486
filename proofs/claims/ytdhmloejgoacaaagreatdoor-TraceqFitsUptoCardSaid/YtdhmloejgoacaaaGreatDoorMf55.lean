/- Records that came in, opened. -/
import Derived.Test.YtdhmloejgoacaaaGreatDoorLqOpen
import Derived.Test.YtdhmloejgoacaaaGreatDoorMf53
import Derived.Test.YtdhmloejgoacaaaGreatDoorTqOpen
set_option linter.unusedVariables false
set_option linter.unusedSimpArgs false
namespace Go.Proofs.YtdhmloejgoacaaaGreatDoor
open Go.RowKit Go.Bl Go.Deep Go.WideShapes Go.Lq

section
variable {H : Type} {enc : TypeId × Value → H} {w : World} {base : Nat} {spare : Nat → Bool} {held : Bool}
set_option maxRecDepth 100000 in
theorem at_open {fuel : Nat} {cs : List Value} {x : DataW H × List MemPlace} {a : Addr} (hc : w.cells? base a 2 = some cs) (h : DataW.trod enc Tryz.prog w base spare held fuel 115 cs = some x) : ∃ m : At, AtAt w a m ∧ m.key.length + m.val.length ≤ Rows.uptoBulk x.1 := by
  obtain ⟨hb, hlc, hcell⟩ := World.cells?_some hc
  obtain ⟨xs, n, _, rfl, hl, hlen, hf⟩ := DataW.trod_struct Tryz.underlying115 h
  have e9 : Tryz.prog.cellsOf 9 = 1 := by kernel_rfl
  clear h hc
  match cs, hlc, xs, hlen with
  | [c0, c1], _, [y0, y1], _ =>
    have h0 : DataW.trod enc Tryz.prog w base spare held n 9 [c0] = some y0 := by simpa [e9] using hf 0 _ rfl
    have h1 : DataW.trod enc Tryz.prog w base spare held n 9 [c1] = some y1 := by simpa [e9] using hf 1 _ rfl
    obtain ⟨n0, q0, r0, _⟩ := DataW.trod_string Tryz.underlying9 h0
    obtain ⟨n1, q1, r1, _⟩ := DataW.trod_string Tryz.underlying9 h1
    simp only [List.cons.injEq, and_true] at q0 q1
    subst q0 q1 r0 r1
    have g0 := hcell 0 (by omega)
    have g1 := hcell 1 (by omega)
    have hs : a.spot = none := World.cell?_spot (v := .string n0) (by simpa [Addr.add] using g0)
    refine ⟨⟨n0.data.toList, n1.data.toList⟩, ⟨by simpa [Addr.add] using g0, ?_⟩, ?_⟩
    · rw [← add_plain' hs]; exact g1
    · simp only [List.map_cons, List.map_nil, Rows.uptoBulk, Rows.uptoBulkAll]
      omega
instance : Inhabited At := ⟨⟨[], []⟩⟩
set_option maxRecDepth 100000 in
theorem ats_open {fuel : Nat} {v : Value} {x : DataW H × List MemPlace} (h : DataW.trod enc Tryz.prog w base spare held fuel 35 [v] = some x) : ∃ l : List At, Ats w v l ∧ l.length ≤ Rows.uptoBulk x.1 ∧ ∀ m ∈ l, m.key.length + m.val.length ≤ Rows.uptoBulk x.1 := by
  rcases open_slice Tryz.underlying35 h with ⟨hcs, _⟩ | ⟨a, len', cap', m, n, D, Pl, hcs, hb, hl, hm, hmm, hx, hel⟩
  · simp only [List.cons.injEq, and_true] at hcs
    subst hcs
    exact ⟨[], Ats.nil w, by simp, by simp⟩
  · simp only [List.cons.injEq, and_true] at hcs
    subst hcs
    have e3 : Tryz.prog.cellsOf 115 = 2 := by kernel_rfl
    rw [e3] at hel
    have hle : len' ≤ m := by rw [hmm]; split <;> omega
    have key : ∀ i, i < len' → ∃ o : At, AtAt w (a.add (i * 2)) o ∧ o.key.length + o.val.length ≤ Rows.uptoBulk (D i) := fun i hi => by
      obtain ⟨cs', h1, h2⟩ := hel i (by omega)
      exact at_open h1 h2
    obtain ⟨f, hf⟩ := choose_lt key
    unfold maxLen at hm
    subst hx
    have hb1 := bulks.slice_le ((List.range len').map D) ((List.range (m - len')).map fun j => D (len' + j))
    have hb2 := bulks.slice_elems ((List.range len').map D) ((List.range (m - len')).map fun j => D (len' + j))
    simp only [List.length_map, List.length_range] at hb1
    refine ⟨(List.range len').map f, ⟨some a, cap', by simp, by simp; omega, fun i hi => ⟨a, rfl, ?_⟩⟩, by simp only [List.length_map, List.length_range]; omega, fun o ho => ?_⟩
    · simp only [List.length_map, List.length_range] at hi
      simpa using (hf i hi).1
    · obtain ⟨i, hi, rfl⟩ := List.mem_map.1 ho
      have hi' := List.mem_range.1 hi
      have h1 := (hf i hi').2
      have h2 : Rows.uptoBulk (D i) ≤ Rows.uptoBulkAll ((List.range len').map D) := bulks.part_le (List.mem_map.2 ⟨i, hi, rfl⟩)
      simp only at hb1 hb2 ⊢
      omega
set_option maxRecDepth 100000 in
theorem bytes_open {fuel : Nat} {cs : List Value} {x : DataW H × List MemPlace} {t n : Nat} (ht : Tryz.prog.underlying t = some (.array n 5)) (hn : cs.length = n) (h : DataW.trod enc Tryz.prog w base spare held fuel t cs = some x) : ∃ l : Bs, cs = Lib.byteCells l ∧ l.length = n := by
  obtain ⟨xs, m, _, _, _, hlen, hf⟩ := DataW.trod_array ht h
  have e5 : Tryz.prog.cellsOf 5 = 1 := by kernel_rfl
  rw [e5] at hf
  have key : ∀ i, i < n → ∃ b : UInt8, cs[i]? = some (.int .u8 (b.toNat : Int)) := fun i hi => by
    have h1 := hf i hi
    rw [Nat.mul_one, List.getElem?_eq_getElem (by omega : i < xs.length)] at h1
    have hi2 : i < cs.length := by omega
    have hd : (cs.drop i).take 1 = [cs[i]] := by rw [List.drop_eq_getElem_cons hi2]; rfl
    rw [hd] at h1
    obtain ⟨z, q, _, hz⟩ := DataW.trod_int Tryz.underlying5 h1
    simp only [List.cons.injEq, and_true] at q
    have hb : 0 ≤ z ∧ z < 256 := by
      have := bounds_u8 hz
      omega
    refine ⟨UInt8.ofNat z.toNat, ?_⟩
    rw [List.getElem?_eq_getElem hi2, q]
    congr 2
    rw [UInt8.toNat_ofNat']
    omega
  obtain ⟨f, hf2⟩ := choose_lt key
  refine ⟨(List.range n).map f, ?_, by simp⟩
  apply List.ext_getElem?
  intro i
  unfold Lib.byteCells
  by_cases hi : i < n
  · rw [hf2 i hi]
    simp [hi]
  · rw [List.getElem?_eq_none (by omega), List.getElem?_eq_none]
    simp only [List.length_map, List.length_range]
    omega
theorem rest_split (l : List Value) (h : l.length = 32) : l = l.take 16 ++ ((l.drop 16).take 8 ++ (l.drop 24).take 8) := by
  conv => lhs; rw [← List.take_append_drop 16 l]
  congr 1
  conv => lhs; rw [← List.take_append_drop 8 (l.drop 16), List.drop_drop]
  congr 1
  rw [List.take_of_length_le (by rw [List.length_drop]; omega)]
set_option maxRecDepth 100000 in
/-- A record by value. -/
theorem rec_agg {r : Reach} {b0 : Nat} {v : Value} {d : DataW H} {p : List MemPlace} (hv : Value.okWide Tryz.prog w r b0 39 v) (h : DataW.Trod enc Tryz.prog w base spare held 39 v d p) :
    ∃ r : Rc, RecV w v r ∧ r.attrs.length ≤ Rows.uptoBulk d ∧ (∀ m ∈ r.attrs, m.key.length + m.val.length ≤ Rows.uptoBulk d) ∧ r.text.size ≤ Rows.uptoBulk d := by
  obtain ⟨cs, rfl, hsz⟩ := okWide_struct Tryz.underlying39 hv
  obtain ⟨fuel, hf⟩ := h
  have e40 : Tryz.prog.cellsOf 39 = 40 := by kernel_rfl
  have e2 : Tryz.prog.cellsOf 2 = 1 := by kernel_rfl
  have e3 : Tryz.prog.cellsOf 3 = 1 := by kernel_rfl
  have e9 : Tryz.prog.cellsOf 9 = 1 := by kernel_rfl
  have e35 : Tryz.prog.cellsOf 35 = 1 := by kernel_rfl
  have e36 : Tryz.prog.cellsOf 36 = 16 := by kernel_rfl
  have e37 : Tryz.prog.cellsOf 37 = 8 := by kernel_rfl
  obtain ⟨cs⟩ := cs
  have hlc : cs.length = 40 := by simpa [Value.cells, e40] using hsz
  have hf' : DataW.trod enc Tryz.prog w base spare held fuel 39 cs = some (d, p) := by simpa [Value.cells] using hf
  obtain ⟨xs, n, _, hd, hl, hlen, hg⟩ := DataW.trod_struct Tryz.underlying39 hf'
  clear hf hf' hsz
  match cs, hlc, xs, hlen with
  | c0 :: c1 :: c2 :: c3 :: c4 :: c5 :: c6 :: c7 :: rest, hlc, [y0, y1, y2, y3, y4, y5, y6, y7, y8, y9, y10], _ =>
    have hr : rest.length = 32 := by simp only [List.length_cons] at hlc; omega
    have h0 : DataW.trod enc Tryz.prog w base spare held n 3 [c0] = some y0 := by simpa [e3] using hg 0 _ rfl
    have h1 : DataW.trod enc Tryz.prog w base spare held n 9 [c1] = some y1 := by simpa [e9] using hg 1 _ rfl
    have h2 : DataW.trod enc Tryz.prog w base spare held n 35 [c2] = some y2 := by simpa [e35] using hg 2 _ rfl
    have h3 : DataW.trod enc Tryz.prog w base spare held n 2 [c3] = some y3 := by simpa [e2] using hg 3 _ rfl
    have h4 : DataW.trod enc Tryz.prog w base spare held n 2 [c4] = some y4 := by simpa [e2] using hg 4 _ rfl
    have h5 : DataW.trod enc Tryz.prog w base spare held n 2 [c5] = some y5 := by simpa [e2] using hg 5 _ rfl
    have h6 : DataW.trod enc Tryz.prog w base spare held n 3 [c6] = some y6 := by simpa [e3] using hg 6 _ rfl
    have h7 : DataW.trod enc Tryz.prog w base spare held n 9 [c7] = some y7 := by simpa [e9] using hg 7 _ rfl
    have h8 : DataW.trod enc Tryz.prog w base spare held n 36 (rest.take 16) = some y8 := by simpa [e36] using hg 8 _ rfl
    have h9 : DataW.trod enc Tryz.prog w base spare held n 37 ((rest.drop 16).take 8) = some y9 := by simpa [e37] using hg 9 _ rfl
    have h10 : DataW.trod enc Tryz.prog w base spare held n 37 ((rest.drop 24).take 8) = some y10 := by simpa [e37] using hg 10 _ rfl
    obtain ⟨n0, q0, _, _⟩ := DataW.trod_int Tryz.underlying3 h0
    obtain ⟨n1, q1, _, _⟩ := DataW.trod_string Tryz.underlying9 h1
    obtain ⟨l2, m2, s2, t2⟩ := ats_open h2
    obtain ⟨n3, q3, _, _⟩ := DataW.trod_int Tryz.underlying2 h3
    obtain ⟨n4, q4, _, _⟩ := DataW.trod_int Tryz.underlying2 h4
    obtain ⟨n5, q5, _, _⟩ := DataW.trod_int Tryz.underlying2 h5
    obtain ⟨n6, q6, _, _⟩ := DataW.trod_int Tryz.underlying3 h6
    obtain ⟨n7, q7, r7, _⟩ := DataW.trod_string Tryz.underlying9 h7
    obtain ⟨l8, q8, t8⟩ := bytes_open Tryz.underlying36 (by rw [List.length_take]; omega) h8
    obtain ⟨l9, q9, t9⟩ := bytes_open Tryz.underlying37 (by rw [List.length_take, List.length_drop]; omega) h9
    obtain ⟨l10, q10, t10⟩ := bytes_open Tryz.underlying37 (by rw [List.length_take, List.length_drop]; omega) h10
    simp only [List.cons.injEq, and_true] at q0 q1 q3 q4 q5 q6 q7
    subst q0 q1 q3 q4 q5 q6 q7
    simp only [Prod.mk.injEq] at hd
    obtain ⟨rfl, _⟩ := hd
    have hsp := rest_split rest hr
    rw [q8, q9, q10] at hsp
    have hb : Rows.uptoBulk y2.1 ≤ Rows.uptoBulk (DataW.agg ([y0, y1, y2, y3, y4, y5, y6, y7, y8, y9, y10].map (·.1))) ∧ Rows.uptoBulk y7.1 ≤ Rows.uptoBulk (DataW.agg ([y0, y1, y2, y3, y4, y5, y6, y7, y8, y9, y10].map (·.1))) := by
      simp only [List.map_cons, List.map_nil, Rows.uptoBulk, Rows.uptoBulkAll]
      omega
    have hb7 : n7.size ≤ Rows.uptoBulk y7.1 := by
      rw [r7]
      simp only [Rows.uptoBulk]
      have := bytes_len n7
      omega
    obtain ⟨A, cap, rfl, hm1, hm2⟩ := id m2
    refine ⟨⟨n0, n1, l2, n3, n4, n5, n6, n7, l8, l9, l10⟩, ⟨A, cap, ?_, m2, t8, t9, t10⟩, Nat.le_trans s2 hb.1, fun m hm => Nat.le_trans (t2 m hm) hb.1, Nat.le_trans hb7 hb.2⟩
    rw [hsp]
    rfl
end
end Go.Proofs.YtdhmloejgoacaaaGreatDoor
namespace Go.Proofs.YtdhmloejgoacaaaGreatDoor
open Go.RowKit Go.Bl Go.Deep Go.WideShapes Go.Lq Go.Tq
section
variable {H : Type} {enc : TypeId × Value → H} {w : World} {base : Nat} {spare : Nat → Bool} {held : Bool}
set_option maxRecDepth 100000 in
theorem st_agg {r : Reach} {b0 : Nat} {v : Value} {d : DataW H} {p : List MemPlace} (hv : Value.okWide Tryz.prog w r b0 45 v) (h : DataW.Trod enc Tryz.prog w base spare held 45 v d p) :
    ∃ t : St, StV w v t ∧ t.mat.length ≤ Rows.uptoBulk d ∧ ∀ y ∈ t.mat, y.key.length + y.val.length ≤ Rows.uptoBulk d := by
  obtain ⟨cs, rfl, hsz⟩ := okWide_struct Tryz.underlying45 hv
  obtain ⟨fuel, hf⟩ := h
  have e3 : Tryz.prog.cellsOf 45 = 3 := by kernel_rfl
  obtain ⟨cs⟩ := cs
  have hlc : cs.length = 3 := by simpa [Value.cells, e3] using hsz
  have hf' : DataW.trod enc Tryz.prog w base spare held fuel 45 cs = some (d, p) := by simpa [Value.cells] using hf
  obtain ⟨t, m, rfl, hm, _, h2, h3⟩ := st_list hlc hf'
  exact ⟨t, ⟨m, rfl, hm⟩, h2, h3⟩
set_option maxRecDepth 100000 in
theorem mts_agg {r : Reach} {b0 : Nat} {v : Value} {d : DataW H} {p : List MemPlace} (hv : Value.okWide Tryz.prog w r b0 22 v) (h : DataW.Trod enc Tryz.prog w base spare held 22 v d p) :
    ∃ l : List Mt, Mts w v l ∧ l.length ≤ Rows.uptoBulk d ∧ ∀ m ∈ l, m.key.length + m.val.length ≤ Rows.uptoBulk d := by
  obtain ⟨a, n, c, rfl⟩ := okWide_slice Tryz.underlying22 hv
  obtain ⟨fuel, hf⟩ := h
  exact mts_open (by simpa [Value.cells] using hf)
end
end Go.Proofs.YtdhmloejgoacaaaGreatDoor
