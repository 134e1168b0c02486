/- The reference's Lent: a query in new memory. -/
import Derived.Test.YtdhmloejgoacaaaGreatDoorMw10
import Derived.Deep.Upon
import Derived.Deep.AppendLies
set_option linter.unusedVariables false
set_option linter.unusedSimpArgs false
namespace Go.Proofs.YtdhmloejgoacaaaGreatDoor
open Go.RowKit Go.Bl Go.Lq

theorem mtCells_one (l : List Mt) : ∀ u ∈ mtCells l, u.oneCell' = true := by
  intro u hu
  unfold mtCells at hu
  obtain ⟨m, hm, h⟩ := List.mem_flatMap.1 hu
  simp only [List.mem_cons, List.not_mem_nil, or_false] at h
  rcases h with rfl | rfl | rfl <;> rfl
theorem mtCells_at {w : World} {ad : Addr} {l : List Mt} (h : ∀ i (hi : i < l.length), MtAt w (ad.add (i * 3)) l[i]) : ∀ j u, (mtCells l)[j]? = some u → w.cell? (ad.add j) = some u := by
  intro j u hj
  have hjl : j < l.length * 3 := by rw [← mtCells_length]; exact (List.getElem?_eq_some_iff.1 hj).1
  have hi : j / 3 < l.length := by omega
  obtain ⟨h0, h1, h2⟩ := h (j / 3) hi
  obtain ⟨e0, e1, e2⟩ := mtCells_get l (j / 3) hi
  have hs' : ad.spot = none := by
    have hs := World.cell?_spot (h 0 (by omega)).1
    simpa [Addr.add] using hs
  have ha : ∀ k, ad.add k = ⟨ad.block, ad.off + k, none⟩ := by
    intro k
    obtain ⟨b, o, s⟩ := ad
    simp only at hs'
    subst hs'
    unfold Addr.add
    split <;> simp_all
  rw [ha] at h0 h1 h2 ⊢
  rcases (by omega : j = j / 3 * 3 ∨ j = j / 3 * 3 + 1 ∨ j = j / 3 * 3 + 2) with e | e | e
  · rw [e] at hj ⊢; rw [e0] at hj; cases hj; exact h0
  · rw [e] at hj ⊢; rw [e1] at hj; cases hj; rw [← Nat.add_assoc]; exact h1
  · rw [e] at hj ⊢; rw [e2] at hj; cases hj; rw [← Nat.add_assoc]; exact h2
theorem add_block (ad : Addr) (k : Nat) : (ad.add k).block = ad.block := by unfold Addr.add; split <;> rfl
theorem Mts.frS {S : List Nat} {w w' : World} {v : Value} {l : List Mt} (h : Mts w v l) (hF : Fr S w w') (hA : ∀ A n c, v = .slice (some A) n c → A.block ∉ S) : Mts w' v l := by
  obtain ⟨A, cap, e, hl, hx⟩ := h
  refine ⟨A, cap, e, hl, fun i hi => ?_⟩
  obtain ⟨ad, ha, h0, h1, h2⟩ := hx i hi
  subst ha
  have hn := hA ad _ _ e
  exact ⟨ad, rfl, cell_frS hF h0 (by rw [add_block]; exact hn), cell_frS hF h1 (by simpa [add_block] using hn), cell_frS hF h2 (by simpa [add_block] using hn)⟩
theorem append_mts (w : World) (ty : TypeId) (v : Value) (l : List Mt) (h : Mts w v l) (hl : l.length ≤ 2000000) :
    ∃ v' w', (Builtin.append_ #[22, 22] ty #[.slice none 0 0, v]).run Tryz.prog w = .ok v' w' ∧ Mts w' v' l ∧ Fr [] w w' ∧ ∀ A n c, v' = .slice (some A) n c → w.heap.size ≤ A.block := by
  obtain ⟨i0, hi0, hz0, hz1, hz2⟩ := info_parts infoMt
  obtain ⟨A, cp, rfl, hl0, hx⟩ := h
  rcases Nat.eq_zero_or_pos l.length with h0 | h0
  · obtain rfl : l = [] := List.eq_nil_of_length_eq_zero h0
    refine ⟨_, _, run_append_nothing w _ _ ty 74 i0 Tryz.underlying22 hi0 none 0 0 (Nat.le_refl _) (.slice A 0 cp) ?_, Mts.nil w, Fr.refl _ _, fun A n c e => by cases e⟩
    cases A with
    | none => exact Src.ofNil w Tryz.underlying22 cp
    | some ad => exact Src.ofSlice w Tryz.underlying22 ad 0 cp [] (by simp) (by simp) (by simp)
  · obtain ⟨ad, rfl, _⟩ := hx 0 h0
    have hx' : ∀ i (hi : i < l.length), MtAt w (ad.add (i * 3)) l[i] := fun i hi => by
      obtain ⟨ad', e, hm⟩ := hx i hi
      cases e
      exact hm
    obtain ⟨g, cap, w', hr, hown, hgrow, hat, _⟩ := run_append_lies (P := Tryz.prog) w 22 ty w.heap.size 74 i0 _ 3 40 Tryz.underlying22 hi0 hz0 hz1 hz2 rfl (by omega) (.slice none 0 0) 0 [] (World.ownsRow_nil _ _ _ _) ad l.length cp (mtCells l) (mtCells_length l) (mtCells_at hx') (mtCells_one l) h0 (by unfold maxLen; omega) (by omega) (Nat.le_refl _) w.heap.size rfl
    rw [Nat.zero_add, List.nil_append] at hown
    rw [Nat.zero_add] at hr
    refine ⟨_, _, hr, Mts.ofRow hown (by omega), fr_grown hgrow, fun A n c e => ?_⟩
    cases e
    rcases hat with h | h
    · cases h
    · exact Nat.le_of_eq h.symm
theorem wpList_append_mts {ops : Array Oper} {rest : List Oper} {o : Oper} {a : Act} {Q : Exit → Act → World → Prop} {w : World} (hgd : o.guard = none) (s x : Operand)
    (ho : o.op = .call { callee := .builtin .append, args := #[s, x], argTypes := #[22, 22] }) (hs : a.eval s = .slice none 0 0) (v : Value) (hx : a.eval x = v) (l : List Mt) (hM : Mts w v l) (hl : l.length ≤ 2000000)
    (h : ∀ v' w', Mts w' v' l → Fr [] w w' → (∀ A n c, v' = .slice (some A) n c → w.heap.size ≤ A.block) → wpList Tryz.prog ops Q rest (a.put o.dst v') w') : wpList Tryz.prog ops Q (o :: rest) a w := by
  obtain ⟨v', w', hr, h1, h2, h3⟩ := append_mts w o.type v l hM hl
  refine wpList_plain hgd fun _ hK => ?_
  unfold Oper.wp execOp
  simp only [ho, resolve, invoke, builtin, Sem.run_bind, Sem.run_pure, Result.andThen_ok, List.map_toArray, List.map_cons, List.map_nil, hs, hx, hr]
  exact hK _ _ (h v' w' h1 h2 h3)
set_option maxRecDepth 100000 in
set_option maxHeartbeats 800000 in
theorem lent_any (q : Qy) (v : Value) (w : World) (hv : QyV w v q) (hl1 : q.mat.length ≤ 2000000) (hl2 : q.tests.length ≤ 2000000) :
    Calls Tryz.prog 14 #[v] w fun e w' => ∃ v', e = .returned v' ∧ QyV w' v' q ∧ Fr [] w w' := by
  obtain ⟨c2, c4, rfl, hm2, hm4⟩ := hv
  have HM2 := Lib.hid hm2
  have HM4 := Lib.hid hm4
  obtain ⟨A2, cp2, rfl, _, _⟩ := hm2
  obtain ⟨A4, cp4, rfl, _, _⟩ := hm4
  obtain ⟨a2, ha2⟩ : ∃ a2, Value.slice A2 q.mat.length cp2 = a2 := ⟨_, rfl⟩
  have hFx : Fr [] w (((w.alloc (.cells #[.slice A2 q.mat.length cp2, .int .i64 q.level, .slice A4 q.tests.length cp4, .int .i64 q.limit] 24)).alloc (.cells #[.slice none 0 0, .int .i64 0, .slice none 0 0, .int .i64 0] 24)).alloc (.cells #[.slice none 0 0, .int .i64 q.level, .slice A4 q.tests.length cp4, .int .i64 q.limit] 24)) := (((Fr.refl _ _).alloc _).alloc _).alloc _
  have hb1 := Go.Bl.heap_alloc_old (Go.Bl.heap_alloc_old (heap_alloc w (.cells #[.slice A2 q.mat.length cp2, .int .i64 q.level, .slice A4 q.tests.length cp4, .int .i64 q.limit] 24)) (.cells #[.slice none 0 0, .int .i64 0, .slice none 0 0, .int .i64 0] 24)) (.cells #[.slice none 0 0, .int .i64 q.level, .slice A4 q.tests.length cp4, .int .i64 q.limit] 24)
  have hb2 := Go.Bl.heap_alloc_old (heap_alloc (w.alloc (.cells #[.slice A2 q.mat.length cp2, .int .i64 q.level, .slice A4 q.tests.length cp4, .int .i64 q.limit] 24)) (.cells #[.slice none 0 0, .int .i64 0, .slice none 0 0, .int .i64 0] 24)) (.cells #[.slice none 0 0, .int .i64 q.level, .slice A4 q.tests.length cp4, .int .i64 q.limit] 24)
  have hb3 := heap_alloc ((w.alloc (.cells #[.slice A2 q.mat.length cp2, .int .i64 q.level, .slice A4 q.tests.length cp4, .int .i64 q.limit] 24)).alloc (.cells #[.slice none 0 0, .int .i64 0, .slice none 0 0, .int .i64 0] 24)) (.cells #[.slice none 0 0, .int .i64 q.level, .slice A4 q.tests.length cp4, .int .i64 q.limit] 24)
  simp only [size_alloc'] at hb1 hb2 hb3
  have HX := Lib.hid (And.intro hFx (And.intro hb1 (And.intro hb2 hb3)))
  clear hFx hb1 hb2 hb3 ha2
  go_enter Tryz.func14, Tryz.ntmps14
  have hge : w.heap.size ≤ w.heap.size + 1 + 1 := by omega
  go_wp2_with (first | (at_builtin; refine wpList_append_mts rfl (.tmp 7) (.tmp 9) rfl (by simp [Act.eval]) (.slice A2 q.mat.length cp2) (by simp [Act.eval]) q.mat (HM2.out.fr HX.out.1) hl1 ?_; intro v1 w1 hv1 hF1 hn1; have HN1 := Lib.hid hn1; clear hn1; obtain ⟨B1, cq1, rfl, hw1, hw2⟩ := id hv1; have HV1 := Lib.hid hv1; have k1 := cell_of (hF1.obj HX.out.2.1 (by simp)) 2; have z3 := hF1.obj HX.out.2.2.2 (by simp); have k3 := cell_of z3 0; have k4 := cell_of z3 2; simp at k1 k3 k4; have f3 := frozen_of z3; have HF1 := Lib.hid hF1; clear hF1 hv1 hw1 hw2 z3) | (at_builtin; refine wpList_append_mts rfl (.tmp 14) (.tmp 16) rfl (by simp [Act.eval]) (.slice A4 q.tests.length cp4) (by simp [Act.eval]) q.tests (HM4.out.fr (((HX.out.1.trans HF1.out).setCell (.inr hge) _).setCell (.inr hge) _)) hl2 ?_; intro v2 w2 hv2 hF2 hn2; have HN2 := Lib.hid hn2; clear hn2; obtain ⟨B2, cq2, rfl, hw1, hw2⟩ := id hv2; have HV2 := Lib.hid hv2; have HF2 := Lib.hid hF2; clear hv2 hw1 hw2; have z3 := hF2.obj (heap_setCell (heap_setCell (HF1.out.obj HX.out.2.2.2 (by simp)) 0 (.slice B1 q.mat.length cq1)) 2 (.slice none 0 0)) (by simp); have y0 := cell_of z3 0; have y1 := cell_of z3 1; have y2 := cell_of z3 2; have y3 := cell_of z3 3; have f4 := frozen_of z3; have z2 := hF2.obj ((heap_setCell_ne (b := w.heap.size + 1 + 1) (b' := w.heap.size + 1) (by omega) 2 (.slice none 0 0)).trans ((heap_setCell_ne (b := w.heap.size + 1 + 1) (b' := w.heap.size + 1) (by omega) 0 (.slice B1 q.mat.length cq1)).trans (HF1.out.obj HX.out.2.2.1 (by simp)))) (by simp); have x0 := cell_of z2 0; have x1 := cell_of z2 1; have x2 := cell_of z2 2; have x3 := cell_of z2 3; have f5 := frozen_of z2; have HZ2 := Lib.hid z2; clear hF2 z3 z2; simp at y0 y1 y2 y3 x0 x1 x2 x3))
  obtain ⟨WZ, hWZ⟩ : ∃ WZ, (((((w2.setCell { block := w.heap.size + 1 + 1, off := 2 } (Value.slice B2 q.tests.length cq2)).setCell { block := w.heap.size + 1, off := 0 } (Value.slice B1 q.mat.length cq1)).setCell { block := w.heap.size + 1, off := 1 } (Value.int IntKind.i64 q.level)).setCell { block := w.heap.size + 1, off := 2 } (Value.slice B2 q.tests.length cq2)).setCell { block := w.heap.size + 1, off := 3 } (Value.int IntKind.i64 q.limit)) = WZ := ⟨_, rfl⟩
  have hS2 : Fr [w.heap.size + 1, w.heap.size + 1 + 1] w2 WZ := by
    rw [← hWZ]
    exact (((((Fr.refl _ w2).setCell (.inl (by simp)) _).setCell (.inl (by simp)) _).setCell (.inl (by simp)) _).setCell (.inl (by simp)) _).setCell (.inl (by simp)) _
  have hZ : WZ.heap[w.heap.size + 1]? = some (.cells #[.slice B1 q.mat.length cq1, .int .i64 q.level, .slice B2 q.tests.length cq2, .int .i64 q.limit] 24 (0, 0)) := by
    rw [← hWZ]
    have h0 := (heap_setCell_ne (w := w2) (b := w.heap.size + 1 + 1) (b' := w.heap.size + 1) (by omega) 2 (.slice B2 q.tests.length cq2)).trans HZ2.out
    have h1 := heap_setCell h0 0 (.slice B1 q.mat.length cq1)
    have h2 := heap_setCell h1 1 (.int .i64 q.level)
    have h3 := heap_setCell h2 2 (.slice B2 q.tests.length cq2)
    exact heap_setCell h3 3 (.int .i64 q.limit)
  have hT1 : Fr [w.heap.size + 1, w.heap.size + 1 + 1] w1 WZ :=
    ((((Fr.refl _ w1).setCell (.inl (by simp)) _).setCell (.inl (by simp)) _).trans (HF2.out.mono (T := [w.heap.size + 1, w.heap.size + 1 + 1]) (by simp))).trans hS2
  have hz0 := cell_of hZ 0
  have hz1 := cell_of hZ 1
  have hz2 := cell_of hZ 2
  have hz3 := cell_of hZ 3
  simp at hz0 hz1 hz2 hz3
  have hsz := HF1.out.size
  have hsz2 := HF2.out.size
  simp only [size_alloc', World.size_setCell] at hsz hsz2
  have HFI : Hid (QyV WZ (.agg #[.slice B1 q.mat.length cq1, .int .i64 q.level, .slice B2 q.tests.length cq2, .int .i64 q.limit]) q ∧ Fr [] w WZ) := by
    refine ⟨⟨_, _, rfl, HV1.out.frS hT1 (fun A n c e => ?_), HV2.out.frS hS2 (fun A n c e => ?_)⟩, (HX.out.1.trans HF1.out).new hT1 (by simp; omega)⟩
    · have := HN1.out A n c e
      simp only [size_alloc'] at this
      simp only [List.mem_cons, List.not_mem_nil, or_false]
      omega
    · have := HN2.out A n c e
      simp only [World.size_setCell] at this
      simp only [List.mem_cons, List.not_mem_nil, or_false]
      omega
  rw [hWZ]
  refine ⟨rfl, .agg #[.slice B1 q.mat.length cq1, .int .i64 q.level, .slice B2 q.tests.length cq2, .int .i64 q.limit], ?_, ⟨_, rfl, HFI.out⟩⟩
  clear HFI hT1 hS2 hZ hWZ
  simp [results, Tryz.results10, go_sem, hz0, hz1, hz2, hz3]
end Go.Proofs.YtdhmloejgoacaaaGreatDoor
