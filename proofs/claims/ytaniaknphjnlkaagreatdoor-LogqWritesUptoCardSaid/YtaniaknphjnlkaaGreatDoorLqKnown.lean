/- known: the fixed calls. -/
import Derived.Test.YtaniaknphjnlkaaGreatDoorMw44
import Derived.Test.YtaniaknphjnlkaaGreatDoorLqKnownP
namespace Go.Proofs.YtaniaknphjnlkaaGreatDoor
open Go.RowKit Go.Bl Go.Lq

theorem parse1 : parseP Lib.validD known1 = (knownQ, 0, 0) := by
  unfold parseP
  rw [if_neg (by decide), read1]
  dsimp only
  rw [right3]
  rfl
theorem parse2 : parseP Lib.validD known2 = (zeroQ, 131, 4) := by
  unfold parseP
  rw [if_neg (by decide), read2]
  rfl
theorem print3 : printP Lib.validD knownQ = (known3, 0) := by
  unfold printP
  rw [right3, text3]
  rfl
set_option maxRecDepth 100000 in
set_option maxHeartbeats 800000 in
theorem known_any (w : World) (hG : GV w) (h8 : 8 ≤ w.heap.size) :
    Calls Tryz.prog 8 #[] w fun e w' => e = .returned (.bool true) ∧ Fr [] w w' := by
  have hp1 := parse_all ⟨known1.toArray⟩ hG h8
  go_enter Tryz.func8, Tryz.ntmps8
  go_wp2_with fail
  refine hp1.mono ?_
  rintro e w1 ⟨hF1, v1, he, hv1⟩
  rw [show (ByteArray.mk known1.toArray).data.toList = known1 from rfl, parse1] at he hv1
  subst he
  obtain ⟨c2, c4, rfl, m2, m4⟩ := hv1
  obtain ⟨A4, cp4, rfl, hl4, hx4⟩ := id m4
  obtain ⟨A2, cp2, rfl, hl2, hx2⟩ := id m2
  obtain ⟨WB, hWB⟩ : ∃ WB, w1.alloc (.cells #[.slice A2 knownQ.mat.length cp2, .int .i64 knownQ.level, .slice A4 knownQ.tests.length cp4, .int .i64 knownQ.limit] 24) = WB := ⟨_, rfl⟩
  have hFB : Fr [] w1 WB := by rw [← hWB]; exact (Fr.refl _ _).alloc _
  have hB1 : WB.heap[w1.heap.size]? = some (.cells #[.slice A2 knownQ.mat.length cp2, .int .i64 knownQ.level, .slice A4 knownQ.tests.length cp4, .int .i64 knownQ.limit] 24 (0, 0)) := by rw [← hWB]; exact heap_alloc w1 _
  have hFw := hF1.trans hFB
  have hp2 := parse_all ⟨known2.toArray⟩ (w := WB) (hG.below (B := 8) (hFw.below h8 (by simp)) (by omega)) (by have := hFw.size; omega)
  have HM := Lib.hid (And.intro m2 (And.intro m4 (And.intro hFB (And.intro hB1 hFw))))
  clear m2 m4 hF1 hx4 hx2 hp1 hFB hB1 hFw
  go_wp2_with fail
  (try rw [hWB])
  go_wp2_with fail
  refine hp2.mono ?_
  rintro e w2 ⟨hF2, v2, he, hv2⟩
  rw [show (ByteArray.mk known2.toArray).data.toList = known2 from rfl, parse2] at he hv2
  subst he
  obtain ⟨d2, d4, rfl, ⟨D2, dp2, rfl, _⟩, ⟨D4, dp4, rfl, _⟩⟩ := hv2
  obtain ⟨WC, hWC⟩ : ∃ WC, w2.alloc (.cells #[.slice D2 zeroQ.mat.length dp2, .int .i64 zeroQ.level, .slice D4 zeroQ.tests.length dp4, .int .i64 zeroQ.limit] 24) = WC := ⟨_, rfl⟩
  have hFC : Fr [] WB WC := hF2.trans (by rw [← hWC]; exact (Fr.refl _ _).alloc _)
  have hb := hFC.obj HM.out.2.2.2.1 (by simp)
  have k0 := cell_of hb 0
  have k1 := cell_of hb 1
  have k2 := cell_of hb 2
  have k3 := cell_of hb 3
  simp only [List.getElem?_toArray, List.getElem?_cons_zero, List.getElem?_cons_succ] at k0 k1 k2 k3
  have hFw2 := HM.out.2.2.2.2.trans hFC
  have hpr := print_any knownQ _ WC (hG.below (B := 8) (hFw2.below h8 (by simp)) (by omega)) (by have := hFw2.size; omega) ⟨_, _, rfl, (HM.out.1.fr HM.out.2.2.1).fr hFC, (HM.out.2.1.fr HM.out.2.2.1).fr hFC⟩
  rw [print3] at hpr
  have HF2 := Lib.hid (And.intro hFw2 hb)
  clear hF2 hFC hb hFw2 hp2 hWB
  go_wp2_with fail
  (try rw [hWC])
  go_wp2_with fail
  refine hpr.mono ?_
  rintro e w3 ⟨rfl, hF3⟩
  have hb3 := hF3.obj HF2.out.2 (by simp)
  have l0 := cell_of hb3 0
  have l1 := cell_of hb3 1
  have l2 := cell_of hb3 2
  have l3 := cell_of hb3 3
  simp only [List.getElem?_toArray, List.getElem?_cons_zero, List.getElem?_cons_succ] at l0 l1 l2 l3
  have n1 : knownQ.level = 9 := rfl
  have n2 : knownQ.limit = 5 := rfl
  have n3 : knownQ.tests.length = 2 := rfl
  have n4 : known3.toArray = #[123, 101, 110, 118, 61, 34, 112, 114, 111, 100, 34, 125, 32, 124, 32, 108, 101, 118, 101, 108, 32, 57, 32, 124, 61, 32, 34, 101, 114, 114, 111, 114, 34, 32, 124, 32, 117, 115, 101, 114, 33, 61, 34, 97, 110, 110, 34, 32, 124, 32, 108, 105, 109, 105, 116, 32, 53] := rfl
  have HF3 := Lib.hid (HF2.out.1.trans hF3)
  clear hF3 hb3 hWC k0 k1 k2 k3
  go_wp2_with fail
  go_ret
  exact ⟨rfl, HF3.out⟩
end Go.Proofs.YtaniaknphjnlkaaGreatDoor
