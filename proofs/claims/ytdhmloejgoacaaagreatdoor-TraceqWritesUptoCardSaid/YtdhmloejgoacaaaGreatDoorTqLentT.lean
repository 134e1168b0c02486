/- The reference's Lent of chapter 15: a query in new memory. -/
import Derived.Test.YtdhmloejgoacaaaGreatDoorLqLent
import Derived.Test.YtdhmloejgoacaaaGreatDoorTqParse
set_option linter.unusedVariables false
set_option linter.unusedSimpArgs false
namespace Go.Proofs.YtdhmloejgoacaaaGreatDoor
open Go.RowKit Go.Bl Go.Lq Go.Tq

set_option maxRecDepth 100000 in
set_option maxHeartbeats 4000000 in
theorem lentT_any (q : Tq) (v : Value) (w : World) (hv : TqV w v q) (hl1 : q.first.mat.length ≤ 2000000) (hl2 : q.second.mat.length ≤ 2000000) :
    Calls Tryz.prog 27 #[v] w fun e w' => ∃ v', e = .returned v' ∧ TqV w' v' q ∧ Fr [] w w' := by
  obtain ⟨m1, m2, rfl, hm1, hm2⟩ := hv
  obtain ⟨A1, L1, C1, rfl⟩ : ∃ A L C, m1 = .slice A L C := by obtain ⟨A, c, e, _⟩ := hm1; exact ⟨A, _, c, e⟩
  obtain ⟨A2, L2, C2, rfl⟩ : ∃ A L C, m2 = .slice A L C := by obtain ⟨A, c, e, _⟩ := hm2; exact ⟨A, _, c, e⟩
  obtain ⟨X, hX⟩ : ∃ X, w.heap.size = X := ⟨_, rfl⟩
  have hF0 : Fr [] w ((w.alloc (.cells (QC q (.slice A1 L1 C1) (.slice A2 L2 C2)) 47)).alloc (.cells zeroTQ 47)) := ((Fr.refl _ _).alloc _).alloc _
  have hX0 := Go.Bl.heap_alloc_old (Go.Bl.heap_alloc w (.cells (QC q (.slice A1 L1 C1) (.slice A2 L2 C2)) 47)) (.cells zeroTQ 47)
  have hA0 := Go.Bl.heap_alloc (w.alloc (.cells (QC q (.slice A1 L1 C1) (.slice A2 L2 C2)) 47)) (.cells zeroTQ 47)
  obtain ⟨A, hA⟩ : ∃ A, (w.alloc (.cells (QC q (.slice A1 L1 C1) (.slice A2 L2 C2)) 47)).heap.size = A := ⟨_, rfl⟩
  have hXe : Hid (w.heap.size = X) := Lib.hid hX
  have hXA : X < A := by rw [← hA, ← hX, size_alloc']; omega
  obtain ⟨w0, hw0⟩ : ∃ w0, (w.alloc (.cells (QC q (.slice A1 L1 C1) (.slice A2 L2 C2)) 47)).alloc (.cells zeroTQ 47) = w0 := ⟨_, rfl⟩
  rw [hw0, hX] at hX0
  rw [hw0, hA] at hA0
  rw [hw0] at hF0
  have hAe : Hid (A = X + 1) := Lib.hid (by rw [← hA, size_alloc', hX])
  go_enter Tryz.func27, Tryz.ntmps27
  go_upto_region 1 with fail
  have hXA1 : X + 1 = A := hAe.out.symm
  unfold QC zeroTQ at hw0
  rw [hw0]
  (try rw [hXA1])
  clear hw0
  have x0 := cell_of hX0 0
  have x1 := cell_of hX0 1
  have x2 := cell_of hX0 2
  have x3 := cell_of hX0 3
  have x4 := cell_of hX0 4
  have x5 := cell_of hX0 5
  have x6 := cell_of hX0 6
  have x7 := cell_of hX0 7
  unfold QC at x0 x1 x2 x3 x4 x5 x6 x7
  simp only [List.getElem?_toArray, List.getElem?_cons_zero, List.getElem?_cons_succ] at x0 x1 x2 x3 x4 x5 x6 x7
  have hT1 := Go.Bl.heap_alloc w0 (.cells #[.string ⟨q.first.name.toArray⟩, .int .i64 q.first.least, (.slice A1 L1 C1), .string ⟨q.second.name.toArray⟩, .int .i64 q.second.least, (.slice A2 L2 C2), .int .i64 q.has, .int .i64 q.limit] 47)
  obtain ⟨T, hT⟩ : ∃ T, w0.heap.size = T := ⟨_, rfl⟩
  have hAT : A < T := by rw [← hT]; exact lt_of_obj hA0
  rw [hT] at hT1
  have hF01 : Fr [] w0 (w0.alloc (.cells #[.string ⟨q.first.name.toArray⟩, .int .i64 q.first.least, (.slice A1 L1 C1), .string ⟨q.second.name.toArray⟩, .int .i64 q.second.least, (.slice A2 L2 C2), .int .i64 q.has, .int .i64 q.limit] 47)) := (Fr.refl _ _).alloc _
  go_upto_region 2 with fail
  obtain ⟨w1, hw1⟩ : ∃ w1, w0.alloc (.cells #[.string ⟨q.first.name.toArray⟩, .int .i64 q.first.least, (.slice A1 L1 C1), .string ⟨q.second.name.toArray⟩, .int .i64 q.second.least, (.slice A2 L2 C2), .int .i64 q.has, .int .i64 q.limit] 47) = w1 := ⟨_, rfl⟩
  rw [hw1] at hT1 hF01 ⊢
  (try rw [hT])
  clear hw1 x0 x1 x2 x3 x4 x5 x6 x7 hT hA hX
  have hX1 := hF01.obj hX0 (by simp)
  have hA1 := hF01.obj hA0 (by simp)
  have hF1 := hF0.trans hF01
  have t2 := cell_of hT1 2
  have z2 := frozen_of hT1 2
  simp only [List.getElem?_toArray, List.getElem?_cons_zero, List.getElem?_cons_succ] at t2
  have hT2 : (w1.setCell ⟨T, 2, none⟩ (.slice none 0 0)).heap[T]? = some (.cells #[.string ⟨q.first.name.toArray⟩, .int .i64 q.first.least, (.slice none 0 0), .string ⟨q.second.name.toArray⟩, .int .i64 q.second.least, (.slice A2 L2 C2), .int .i64 q.has, .int .i64 q.limit] 47 (0, 0)) := by rw [heap_setCell hT1]; rfl
  have hF12 : Fr [T] w1 (w1.setCell ⟨T, 2, none⟩ (.slice none 0 0)) := (Fr.refl _ _).setCell (.inl (by simp)) _
  go_upto_region 3 with fail
  obtain ⟨w2, hw2⟩ : ∃ w2, w1.setCell ⟨T, 2, none⟩ (.slice none 0 0) = w2 := ⟨_, rfl⟩
  rw [hw2] at hT2 hF12 ⊢
  clear hw2 t2 z2
  have hwT : w.heap.size ≤ T := by
    rw [hXe.out]
    omega
  have hX2 := hF12.obj hX1 (by simp; omega)
  have hA2 := hF12.obj hA1 (by simp; omega)
  have hF2 : Fr [] w w2 := hF1.new hF12 (by simp; exact hwT)
  have t2 := cell_of hT2 2
  have x2 := cell_of hX2 2
  unfold QC at x2
  simp only [List.getElem?_toArray, List.getElem?_cons_zero, List.getElem?_cons_succ] at t2 x2
  have HM := Lib.hid (And.intro hm1 hm2)
  go_upto_region 4 with (at_builtin; refine wpList_append_mts rfl (.tmp 9) (.tmp 12) rfl (by simp [Act.eval]) (.slice A1 L1 C1) (by simp [Act.eval]) q.first.mat (HM.out.1.fr hF2) hl1 ?_; intro v1 w3 hv1 hF23 hn1; have HN1 := Lib.hid (And.intro hn1 (And.intro hv1 hF23)); obtain ⟨B1, K1, D1, rfl⟩ : ∃ A L C, v1 = .slice A L C := (by obtain ⟨A, c, e, _⟩ := hv1; exact ⟨A, _, c, e⟩); have hT3 := hF23.obj hT2 (by simp); have r2 := cell_of hT3 2; have y2 := frozen_of hT3 2; clear hn1 hv1 hF23 t2 x2; simp only [List.getElem?_toArray, List.getElem?_cons_zero, List.getElem?_cons_succ] at r2)
  have hX3 := HN1.out.2.2.obj hX2 (by simp)
  have hA3 := HN1.out.2.2.obj hA2 (by simp)
  have hT4 : (w3.setCell ⟨T, 2, none⟩ (.slice B1 K1 D1)).heap[T]? = some (.cells #[.string ⟨q.first.name.toArray⟩, .int .i64 q.first.least, (.slice B1 K1 D1), .string ⟨q.second.name.toArray⟩, .int .i64 q.second.least, (.slice A2 L2 C2), .int .i64 q.has, .int .i64 q.limit] 47 (0, 0)) := by rw [heap_setCell hT3]; rfl
  have hF34 : Fr [T] w3 (w3.setCell ⟨T, 2, none⟩ (.slice B1 K1 D1)) := (Fr.refl _ _).setCell (.inl (by simp)) _
  obtain ⟨w4, hw4⟩ : ∃ w4, w3.setCell ⟨T, 2, none⟩ (.slice B1 K1 D1) = w4 := ⟨_, rfl⟩
  rw [hw4] at hT4 hF34 ⊢
  clear hw4 r2 y2
  have hX4 := hF34.obj hX3 (by simp; omega)
  have hA4 := hF34.obj hA3 (by simp; omega)
  have hF4 : Fr [] w w4 := (hF2.trans HN1.out.2.2).new hF34 (by simp; exact hwT)
  have t5 := cell_of hT4 5
  have z5 := frozen_of hT4 5
  simp only [List.getElem?_toArray, List.getElem?_cons_zero, List.getElem?_cons_succ] at t5
  have hT5 : (w4.setCell ⟨T, 5, none⟩ (.slice none 0 0)).heap[T]? = some (.cells #[.string ⟨q.first.name.toArray⟩, .int .i64 q.first.least, (.slice B1 K1 D1), .string ⟨q.second.name.toArray⟩, .int .i64 q.second.least, (.slice none 0 0), .int .i64 q.has, .int .i64 q.limit] 47 (0, 0)) := by rw [heap_setCell hT4]; rfl
  have hF45 : Fr [T] w4 (w4.setCell ⟨T, 5, none⟩ (.slice none 0 0)) := (Fr.refl _ _).setCell (.inl (by simp)) _
  go_upto_region 5 with fail
  obtain ⟨w5, hw5⟩ : ∃ w5, w4.setCell ⟨T, 5, none⟩ (.slice none 0 0) = w5 := ⟨_, rfl⟩
  rw [hw5] at hT5 hF45 ⊢
  clear hw5 t5 z5
  have hX5 := hF45.obj hX4 (by simp; omega)
  have hA5 := hF45.obj hA4 (by simp; omega)
  have hF5 : Fr [] w w5 := hF4.new hF45 (by simp; exact hwT)
  have t5 := cell_of hT5 5
  have x5 := cell_of hX5 5
  unfold QC at x5
  simp only [List.getElem?_toArray, List.getElem?_cons_zero, List.getElem?_cons_succ] at t5 x5
  go_upto_region 6 with (at_builtin; refine wpList_append_mts rfl (.tmp 20) (.tmp 23) rfl (by simp [Act.eval]) (.slice A2 L2 C2) (by simp [Act.eval]) q.second.mat (HM.out.2.fr hF5) hl2 ?_; intro v2 w6 hv2 hF56 hn2; have HN2 := Lib.hid (And.intro hn2 (And.intro hv2 hF56)); obtain ⟨B2, K2, D2, rfl⟩ : ∃ A L C, v2 = .slice A L C := (by obtain ⟨A, c, e, _⟩ := hv2; exact ⟨A, _, c, e⟩); have hT6 := hF56.obj hT5 (by simp); have r5 := cell_of hT6 5; have y5 := frozen_of hT6 5; clear hn2 hv2 hF56 t5 x5; simp only [List.getElem?_toArray, List.getElem?_cons_zero, List.getElem?_cons_succ] at r5)
  have hA6 := HN2.out.2.2.obj hA5 (by simp)
  have hT7 : (w6.setCell ⟨T, 5, none⟩ (.slice B2 K2 D2)).heap[T]? = some (.cells #[.string ⟨q.first.name.toArray⟩, .int .i64 q.first.least, (.slice B1 K1 D1), .string ⟨q.second.name.toArray⟩, .int .i64 q.second.least, (.slice B2 K2 D2), .int .i64 q.has, .int .i64 q.limit] 47 (0, 0)) := by rw [heap_setCell hT6]; rfl
  have hF67 : Fr [T] w6 (w6.setCell ⟨T, 5, none⟩ (.slice B2 K2 D2)) := (Fr.refl _ _).setCell (.inl (by simp)) _
  obtain ⟨w7, hw7⟩ : ∃ w7, w6.setCell ⟨T, 5, none⟩ (.slice B2 K2 D2) = w7 := ⟨_, rfl⟩
  rw [hw7] at hT7 hF67 ⊢
  clear hw7 r5 y5
  have hA7 := hF67.obj hA6 (by simp; omega)
  have hF7 : Fr [] w w7 := (hF5.trans HN2.out.2.2).new hF67 (by simp; exact hwT)
  have t0 := cell_of hT7 0
  have t1 := cell_of hT7 1
  have t2 := cell_of hT7 2
  have t3 := cell_of hT7 3
  have t4 := cell_of hT7 4
  have t5 := cell_of hT7 5
  have t6 := cell_of hT7 6
  have t7 := cell_of hT7 7
  simp only [List.getElem?_toArray, List.getElem?_cons_zero, List.getElem?_cons_succ] at t0 t1 t2 t3 t4 t5 t6 t7
  have a0 := cell_of hA7 0
  have a1 := cell_of hA7 1
  have a2 := cell_of hA7 2
  have a3 := cell_of hA7 3
  have a4 := cell_of hA7 4
  have a5 := cell_of hA7 5
  have a6 := cell_of hA7 6
  have a7 := cell_of hA7 7
  have z0 := frozen_of hA7 0
  have z1 := frozen_of hA7 1
  have z2 := frozen_of hA7 2
  have z3 := frozen_of hA7 3
  have z4 := frozen_of hA7 4
  have z5 := frozen_of hA7 5
  have z6 := frozen_of hA7 6
  have z7 := frozen_of hA7 7
  unfold zeroTQ at a0 a1 a2 a3 a4 a5 a6 a7
  simp only [List.getElem?_toArray, List.getElem?_cons_zero, List.getElem?_cons_succ] at a0 a1 a2 a3 a4 a5 a6 a7
  go_wp2_with fail
  obtain ⟨w9, hw9⟩ : ∃ w9, wset8 w7 A (.string ⟨q.first.name.toArray⟩) (.int .i64 q.first.least) (.slice B1 K1 D1) (.string ⟨q.second.name.toArray⟩) (.int .i64 q.second.least) (.slice B2 K2 D2) (.int .i64 q.has) (.int .i64 q.limit) = w9 := ⟨_, rfl⟩
  have hA9 := set8 (w := w7) hA7 rfl (.string ⟨q.first.name.toArray⟩) (.int .i64 q.first.least) (.slice B1 K1 D1) (.string ⟨q.second.name.toArray⟩) (.int .i64 q.second.least) (.slice B2 K2 D2) (.int .i64 q.has) (.int .i64 q.limit)
  have hF79 : Fr [A] w7 w9 := by rw [← hw9]; exact set8_frA _ _ _ _ _ _ _ _ _ _
  have hF9 : Fr [] w w9 := hF7.new hF79 (by simp; rw [hXe.out]; omega)
  rw [hw9] at hA9
  unfold wset8 at hw9
  rw [hw9]
  clear t0 t1 t2 t3 t4 t5 t6 t7 a0 a1 a2 a3 a4 a5 a6 a7 z0 z1 z2 z3 z4 z5 z6 z7 hw9
  have a0 := cell_of hA9 0
  have a1 := cell_of hA9 1
  have a2 := cell_of hA9 2
  have a3 := cell_of hA9 3
  have a4 := cell_of hA9 4
  have a5 := cell_of hA9 5
  have a6 := cell_of hA9 6
  have a7 := cell_of hA9 7
  simp only [List.getElem?_toArray, List.getElem?_cons_zero, List.getElem?_cons_succ] at a0 a1 a2 a3 a4 a5 a6 a7
  have hTw2 : T < w2.heap.size := lt_of_obj hT2
  have hAw2 : A < w2.heap.size := lt_of_obj hA2
  have hTw5 : T < w5.heap.size := lt_of_obj hT5
  have hAw5 : A < w5.heap.size := lt_of_obj hA5
  have hm1' : Mts w9 (.slice B1 K1 D1) q.first.mat := by
    have e1 : Fr [T, A] w3 w9 := (((hF34.mono (T := [T, A]) (fun i hi => .inl (by simp_all))).trans (hF45.mono (fun i hi => .inl (by simp_all)))).trans (HN2.out.2.2.mono (fun i hi => by simp at hi))).trans ((hF67.mono (fun i hi => .inl (by simp_all))).trans (hF79.mono (fun i hi => .inl (by simp_all))))
    exact HN1.out.2.1.frS e1 (fun B n c e => by
      have := HN1.out.1 B n c e
      simp
      omega)
  have hm2' : Mts w9 (.slice B2 K2 D2) q.second.mat := by
    have e1 : Fr [T, A] w6 w9 := (hF67.mono (T := [T, A]) (fun i hi => .inl (by simp_all))).trans (hF79.mono (fun i hi => .inl (by simp_all)))
    exact HN2.out.2.1.frS e1 (fun B n c e => by
      have := HN2.out.1 B n c e
      simp
      omega)
  have HE := Lib.hid (And.intro hm1' (And.intro hm2' hF9))
  clear hm1' hm2' hF9
  refine bodyPost_ret (v := .agg (QC q (.slice B1 K1 D1) (.slice B2 K2 D2))) ?_ rfl ⟨_, rfl, ⟨_, _, rfl, HE.out.1, HE.out.2.1⟩, HE.out.2.2⟩
  simp [results, Tryz.results27, go_sem, a0, a1, a2, a3, a4, a5, a6, a7, QC]
end Go.Proofs.YtdhmloejgoacaaaGreatDoor
