/- The reference's One: two records alike but for where their attributes lie. -/
import Derived.Test.YtaniaknphjnlkaaGreatDoorLqLentR
import Derived.Stop.BytesEq
namespace Go.Proofs.YtaniaknphjnlkaaGreatDoor
open Go.RowKit Go.Bl Go.Lq

theorem wpList_wantL {P : Program} {ops : Array Oper} {Q : Exit → Act → World → Prop} {a : Act} {w : World} {rest : List Oper} {o : Oper}
    (hw : Region.wanted o (yielded ops a.tmps) = true)
    (h : ∀ K : Act → World → Prop, (∀ a w, wpList P ops Q rest a w → K a w) → o.wp P a w K Q) : wpList P ops Q (o :: rest) a w :=
  wpList_step fun K hK => by rw [if_pos hw]; exact h K hK
/-- A guarded load of many cells. -/
theorem wpList_load_want {P : Program} {ops : Array Oper} {rest : List Oper} {op : Oper} {a : Act} {w : World} {Q : Exit → Act → World → Prop} (ty : TypeId) (x : Operand) (ho : op.op = .load ty x) (hw : Region.wanted op (yielded ops a.tmps) = true)
    (b o : Nat) (hx : a.eval x = .pointer (some ⟨b, o, none⟩)) (cs : List Value) (d : TypeDesc) (hc : w.rangeAt b o cs)
    (hu : P.underlying ty = some d) (hd : d.isRow = true) (hi : (P.info? ty).map (·.size) = some cs.length)
    (h : wpList P ops Q rest (a.put op.dst (.agg cs.toArray)) w) : wpList P ops Q (op :: rest) a w :=
  wpList_wantL hw fun _ hK => wp_load_mid ty x ho b o hx cs d hc hu hd hi (hK _ _ h)
theorem infoB16 : (Tryz.prog.info? 36).map (·.size) = some 16 := by kernel_rfl
theorem infoB8 : (Tryz.prog.info? 37).map (·.size) = some 8 := by kernel_rfl
theorem size5 (w : World) : (sizeOf 5).run Tryz.prog w = .ok 1 w := by
  have h : (Tryz.prog.info? 5).map (·.size) = some 1 := by kernel_rfl
  cases hq : Tryz.prog.info? 5 with
  | none => simp [hq] at h
  | some i =>
    simp [hq] at h
    simp [sizeOf, typeInfo, hq, h]
theorem eql36 (l : Bs) (h : l.length = 16) (w : World) : (Op.equalIn 10000 36 (.agg (Lib.byteCells l).toArray) (.agg (Lib.byteCells l).toArray)).run Tryz.prog w = .ok true w := by
  have := run_equalIn_bytes (P := Tryz.prog) w 9998 36 5 16 Tryz.underlying36 Tryz.underlying5 size5 l l h h
  rw [show (l == l) = true by simp] at this
  exact this
theorem eql37 (l : Bs) (h : l.length = 8) (w : World) : (Op.equalIn 10000 37 (.agg (Lib.byteCells l).toArray) (.agg (Lib.byteCells l).toArray)).run Tryz.prog w = .ok true w := by
  have := run_equalIn_bytes (P := Tryz.prog) w 9998 37 5 8 Tryz.underlying37 Tryz.underlying5 size5 l l h h
  rw [show (l == l) = true by simp] at this
  exact this
theorem rc_all {w : World} {b : Nat} {a : Value} {r : Rc} (h : w.heap[b]? = some (.cells (rcList a r).toArray 39 (0, 0))) :
    w.cell? ⟨b, 0, none⟩ = some (.int .i64 r.kind) ∧ w.cell? ⟨b, 1, none⟩ = some (.string r.name) ∧ w.cell? ⟨b, 2, none⟩ = some a ∧ w.cell? ⟨b, 3, none⟩ = some (.int .i64 r.t) ∧ w.cell? ⟨b, 4, none⟩ = some (.int .i64 r.tt) ∧ w.cell? ⟨b, 5, none⟩ = some (.int .i64 r.v) ∧ w.cell? ⟨b, 6, none⟩ = some (.int .i64 r.level) ∧ w.cell? ⟨b, 7, none⟩ = some (.string r.text) :=
  ⟨cell_of h 0, cell_of h 1, cell_of h 2, cell_of h 3, cell_of h 4, cell_of h 5, cell_of h 6, cell_of h 7⟩
theorem range_sub {w : World} {b : Nat} {C A B D : List Value} {T : TypeId} (h : w.heap[b]? = some (.cells C.toArray T (0, 0))) (e : C = A ++ (B ++ D)) (o : Nat) (ho : A.length = o) : w.rangeAt b o B := by
  intro j v hv
  rw [cell_of h]
  have hj := (List.getElem?_eq_some_iff.1 hv).1
  subst ho e
  simp only [List.getElem?_toArray]
  rw [List.getElem?_append_right (by omega), Nat.add_sub_cancel_left, List.getElem?_append_left hj]
  exact hv
theorem rc_ranges {w : World} {b : Nat} {a : Value} {r : Rc} (h : w.heap[b]? = some (.cells (rcList a r).toArray 39 (0, 0))) (h1 : r.trace.length = 16) (h2 : r.id.length = 8) :
    w.rangeAt b 8 (Lib.byteCells r.trace) ∧ w.rangeAt b 24 (Lib.byteCells r.id) ∧ w.rangeAt b 32 (Lib.byteCells r.parent) := by
  refine ⟨range_sub (A := [.int .i64 r.kind, .string r.name, a, .int .i64 r.t, .int .i64 r.tt, .int .i64 r.v, .int .i64 r.level, .string r.text]) h rfl 8 rfl,
    range_sub (A := [.int .i64 r.kind, .string r.name, a, .int .i64 r.t, .int .i64 r.tt, .int .i64 r.v, .int .i64 r.level, .string r.text] ++ Lib.byteCells r.trace) (D := Lib.byteCells r.parent) h (by simp [rcList]) 24 (by simp [Lib.byteCells_length, h1]),
    range_sub (A := [.int .i64 r.kind, .string r.name, a, .int .i64 r.t, .int .i64 r.tt, .int .i64 r.v, .int .i64 r.level, .string r.text] ++ Lib.byteCells r.trace ++ Lib.byteCells r.id) (D := []) h (by simp [rcList]) 32 (by simp [Lib.byteCells_length, h1, h2])⟩
set_option maxRecDepth 100000 in
set_option maxHeartbeats 1600000 in
theorem one_any (r : Rc) (A A2 : Option Addr) (c c2 : Nat) (w : World) (ha : Ats w (.slice A r.attrs.length c) r.attrs) (ha2 : Ats w (.slice A2 r.attrs.length c2) r.attrs) (h1 : r.trace.length = 16) (h2 : r.id.length = 8) (h3 : r.parent.length = 8) (hls : r.attrs.length ≤ 2000000) :
    Calls Tryz.prog 18 #[.agg (rcList (.slice A r.attrs.length c) r).toArray, .agg (rcList (.slice A2 r.attrs.length c2) r).toArray] w fun e w' => e = .returned (.bool true) ∧ Fr [] w w' := by
  obtain ⟨L1, hL1⟩ : ∃ L, rcList (.slice A r.attrs.length c) r = L := ⟨_, rfl⟩
  obtain ⟨L2, hL2⟩ : ∃ L, rcList (.slice A2 r.attrs.length c2) r = L := ⟨_, rfl⟩
  obtain ⟨WA, hWA⟩ : ∃ WA, (w.alloc (.cells L1.toArray 39)).alloc (.cells L2.toArray 39) = WA := ⟨_, rfl⟩
  have hFA : Fr [] w WA := by rw [← hWA]; exact ((Fr.refl _ _).alloc _).alloc _
  have hB1 : WA.heap[w.heap.size]? = some (.cells (rcList (.slice A r.attrs.length c) r).toArray 39 (0, 0)) := by rw [← hWA, hL1]; exact Go.Bl.heap_alloc_old (heap_alloc w _) _
  have hB2 : WA.heap[w.heap.size + 1]? = some (.cells (rcList (.slice A2 r.attrs.length c2) r).toArray 39 (0, 0)) := by
    rw [← hWA, hL2]
    have := heap_alloc (w.alloc (.cells L1.toArray 39)) (.cells L2.toArray 39)
    rw [size_alloc'] at this
    exact this
  rw [hL1, hL2]
  have hsa := sameA_any r.attrs r.attrs _ _ WA (ha.fr hFA) (ha2.fr hFA) hls
  rw [decide_eq_true rfl] at hsa
  obtain ⟨a0, a1, a2, a3, a4, a5, a6, a7⟩ := rc_all hB1
  obtain ⟨b0, b1, b2, b3, b4, b5, b6, b7⟩ := rc_all hB2
  obtain ⟨nm, hnm⟩ : ∃ x, r.name = x := ⟨_, rfl⟩
  obtain ⟨tx, htx⟩ : ∃ x, r.text = x := ⟨_, rfl⟩
  rw [hnm] at a1 b1
  rw [htx] at a7 b7
  have e16 := eql36 r.trace h1
  have e8 := eql37 r.id h2
  have e88 := eql37 r.parent h3
  have HH := Lib.hid (And.intro hFA (And.intro hB1 (And.intro hB2 (And.intro e16 (And.intro e8 e88)))))
  have HL := Lib.hid (And.intro h1 (And.intro h2 h3))
  clear hFA hB1 hB2 hL1 hL2 hnm htx ha ha2 h1 h2 h3 e16 e8 e88
  go_enter Tryz.func18, Tryz.ntmps18
  go_upto_region 1 with fail
  (try rw [hWA])
  clear hWA
  go_wp2_with fail
  refine hsa.mono ?_
  rintro e w1 ⟨rfl, hF1⟩
  have hb1 := hF1.obj HH.out.2.1 (by simp)
  have hb2 := hF1.obj HH.out.2.2.1 (by simp)
  obtain ⟨_, _, _, c3, c4, c5, c6, c7⟩ := rc_all hb1
  obtain ⟨_, _, _, d3, d4, d5, d6, d7⟩ := rc_all hb2
  obtain ⟨x1, x2, x3⟩ := rc_ranges hb1 HL.out.1 HL.out.2.1
  obtain ⟨y1, y2, y3⟩ := rc_ranges hb2 HL.out.1 HL.out.2.1
  have HF1 := Lib.hid (HH.out.1.trans hF1)
  have HR := Lib.hid (And.intro x1 (And.intro x2 (And.intro x3 (And.intro y1 (And.intro y2 y3)))))
  have E16 := HH.out.2.2.2.1 w1
  have E8 := HH.out.2.2.2.2.1 w1
  have E88 := HH.out.2.2.2.2.2 w1
  clear hF1 hb1 hb2 x1 x2 x3 y1 y2 y3 hsa a0 a1 a2 a3 a4 a5 a6 a7 b0 b1 b2 b3 b4 b5 b6 b7
  go_wp2_with (first | (refine wpList_load_want 36 (.tmp 60) rfl rfl w.heap.size 8 (by simp [Act.eval]) (Lib.byteCells r.trace) _ HR.out.1 Tryz.underlying36 rfl (by rw [Lib.byteCells_length, HL.out.1]; exact infoB16) ?_) | (refine wpList_load_want 36 (.tmp 62) rfl rfl (w.heap.size + 1) 8 (by simp [Act.eval]) (Lib.byteCells r.trace) _ HR.out.2.2.2.1 Tryz.underlying36 rfl (by rw [Lib.byteCells_length, HL.out.1]; exact infoB16) ?_) | (refine wpList_load_want 37 (.tmp 67) rfl rfl w.heap.size 24 (by simp [Act.eval]) (Lib.byteCells r.id) _ HR.out.2.1 Tryz.underlying37 rfl (by rw [Lib.byteCells_length, HL.out.2.1]; exact infoB8) ?_) | (refine wpList_load_want 37 (.tmp 69) rfl rfl (w.heap.size + 1) 24 (by simp [Act.eval]) (Lib.byteCells r.id) _ HR.out.2.2.2.2.1 Tryz.underlying37 rfl (by rw [Lib.byteCells_length, HL.out.2.1]; exact infoB8) ?_) | (refine wpList_load_want 37 (.tmp 74) rfl rfl w.heap.size 32 (by simp [Act.eval]) (Lib.byteCells r.parent) _ HR.out.2.2.1 Tryz.underlying37 rfl (by rw [Lib.byteCells_length, HL.out.2.2]; exact infoB8) ?_) | (refine wpList_load_want 37 (.tmp 76) rfl rfl (w.heap.size + 1) 32 (by simp [Act.eval]) (Lib.byteCells r.parent) _ HR.out.2.2.2.2.2 Tryz.underlying37 rfl (by rw [Lib.byteCells_length, HL.out.2.2]; exact infoB8) ?_))
  go_ret
  exact ⟨rfl, HF1.out⟩
end Go.Proofs.YtaniaknphjnlkaaGreatDoor
