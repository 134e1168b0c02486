/- LogqBack's walk. -/
import Derived.Test.YtaniaknphjnlkaaGreatDoorLqBackQ
import Derived.Test.YtaniaknphjnlkaaGreatDoorLqKnown
import Derived.Test.YtaniaknphjnlkaaGreatDoorLqSame2
namespace Go.Proofs.YtaniaknphjnlkaaGreatDoor
open Go.RowKit Go.Bl Go.Lq

set_option maxRecDepth 100000 in
set_option maxHeartbeats 800000 in
theorem back_any (s : ByteArray) (w : World) (hG : GV w) (h8 : 8 ≤ w.heap.size) :
    Calls Tryz.prog 3 #[.string s] w fun e w' => e = .returned (.bool true) ∧ Fr [] w w' := by
  have hp1 := parse_all s hG h8
  have hcs := parse_cases Lib.validD s.data.toList
  obtain ⟨⟨q, why, n⟩, hpp⟩ : ∃ x, parseP Lib.validD s.data.toList = x := ⟨_, rfl⟩
  rw [hpp] at hcs
  dsimp only at hcs
  go_enter Tryz.func3, Tryz.ntmps3
  go_wp2_with fail
  refine hp1.mono ?_
  rintro e w1 ⟨hF1, v1, he, hv1⟩
  rw [hpp] at he hv1
  dsimp only at he hv1
  subst he
  obtain ⟨c2, c4, rfl, ⟨A2, p2, rfl, hm2⟩, ⟨A4, p4, rfl, hm4⟩⟩ := hv1
  have hq : QyV w1 (.agg #[.slice A2 q.mat.length p2, .int .i64 q.level, .slice A4 q.tests.length p4, .int .i64 q.limit]) q := ⟨_, _, rfl, ⟨A2, p2, rfl, hm2⟩, ⟨A4, p4, rfl, hm4⟩⟩
  obtain ⟨WB, hWB⟩ : ∃ WB, w1.alloc (.cells #[.slice A2 q.mat.length p2, .int .i64 q.level, .slice A4 q.tests.length p4, .int .i64 q.limit] 24) = WB := ⟨_, rfl⟩
  have hFB : Fr [] w1 WB := by rw [← hWB]; exact (Fr.refl _ _).alloc _
  have hB1 : WB.heap[w1.heap.size]? = some (.cells #[.slice A2 q.mat.length p2, .int .i64 q.level, .slice A4 q.tests.length p4, .int .i64 q.limit] 24 (0, 0)) := by rw [← hWB]; exact heap_alloc w1 _
  have k0 := cell_of hB1 0
  have k1 := cell_of hB1 1
  have k2 := cell_of hB1 2
  have k3 := cell_of hB1 3
  simp only [List.getElem?_toArray, List.getElem?_cons_zero, List.getElem?_cons_succ] at k0 k1 k2 k3
  have hFw := hF1.trans hFB
  have hGB := hG.below (B := 8) (hFw.below h8 (by simp)) (by omega)
  have h8B : 8 ≤ WB.heap.size := by have := hFw.size; omega
  have hqB := hq.fr hFB
  have HW := Lib.hid (And.intro hFw (And.intro hB1 hqB))
  clear hFw hB1 hqB hFB hF1 hm2 hm4 hp1
  rcases hcs with ⟨hne, hqz⟩ | ⟨hwz, hrz⟩
  · subst hqz
    have e1 : (why == 0) = false := by simpa using hne
    have hs := sameR_any zeroQ zeroQ _ (.agg #[.slice none 0 0, .int .i64 0, .slice none 0 0, .int .i64 0]) WB HW.out.2.2 (QyV.zero _) (by simp [zeroQ]) (by simp [zeroQ])
    rw [sameQ_refl] at hs
    clear hne
    go_wp2_with fail
    (try rw [hWB])
    go_wp2_with fail
    refine hs.mono ?_
    rintro e w2 ⟨rfl, hF2⟩
    have hk := known_any w2 (hGB.below (B := 8) (hF2.below h8B (by simp)) (by omega)) (by have := hF2.size; omega)
    have HF2 := Lib.hid (HW.out.1.trans hF2)
    clear hF2 hs
    go_wp2_with fail
    refine hk.mono ?_
    rintro e w3 ⟨rfl, hF3⟩
    go_wp2_with fail
    go_ret
    exact ⟨rfl, HF2.out.trans hF3⟩
  · subst hwz
    have hpr := print_any q _ WB hGB h8B HW.out.2.2
    have hp3 : printP Lib.validD q = (textP q, 0) := by unfold printP; rw [hrz, if_neg (by simp)]
    rw [hp3] at hpr
    have hfn := right_fine hrz
    have hbk := parse_back hrz
    have HR := Lib.hid (And.intro hfn hbk)
    clear hp3 hfn hbk hrz
    go_wp2_with fail
    (try rw [hWB])
    go_wp2_with fail
    refine hpr.mono ?_
    rintro e w2 ⟨rfl, hF2⟩
    have hG2 := hGB.below (B := 8) (hF2.below h8B (by simp)) (by omega)
    have h82 : 8 ≤ w2.heap.size := by have := hF2.size; omega
    have hp2 := parse_all ⟨(textP q).toArray⟩ hG2 h82
    have HF2 := Lib.hid hF2
    clear hF2 hpr
    go_wp2_with fail
    refine hp2.mono ?_
    rintro e w3 ⟨hF3, v3, he, hv3⟩
    rw [show (ByteArray.mk (textP q).toArray).data.toList = textP q from rfl, HR.out.2] at he hv3
    dsimp only at he hv3
    subst he
    obtain ⟨d2, d4, rfl, ⟨D2, r2, rfl, hd2⟩, ⟨D4, r4, rfl, hd4⟩⟩ := hv3
    have hx : QyV w3 (.agg #[.slice D2 q.mat.length r2, .int .i64 q.level, .slice D4 q.tests.length r4, .int .i64 q.limit]) q := ⟨_, _, rfl, ⟨D2, r2, rfl, hd2⟩, ⟨D4, r4, rfl, hd4⟩⟩
    obtain ⟨WC, hWC⟩ : ∃ WC, w3.alloc (.cells #[.slice D2 q.mat.length r2, .int .i64 q.level, .slice D4 q.tests.length r4, .int .i64 q.limit] 24) = WC := ⟨_, rfl⟩
    have hFC : Fr [] w3 WC := by rw [← hWC]; exact (Fr.refl _ _).alloc _
    have hC1 : WC.heap[w3.heap.size]? = some (.cells #[.slice D2 q.mat.length r2, .int .i64 q.level, .slice D4 q.tests.length r4, .int .i64 q.limit] 24 (0, 0)) := by rw [← hWC]; exact heap_alloc w3 _
    have hFBC := (HF2.out.trans hF3).trans hFC
    have hb := hFBC.obj HW.out.2.1 (by simp)
    have u0 := cell_of hC1 0
    have u1 := cell_of hC1 1
    have u2 := cell_of hC1 2
    have u3 := cell_of hC1 3
    have v0 := cell_of hb 0
    have v1 := cell_of hb 1
    have v2 := cell_of hb 2
    have v3 := cell_of hb 3
    simp only [List.getElem?_toArray, List.getElem?_cons_zero, List.getElem?_cons_succ] at u0 u1 u2 u3 v0 v1 v2 v3
    have hs := sameR_any q q _ _ WC (hx.fr hFC) (HW.out.2.2.fr hFBC) (by have := HR.out.1.2.1; omega) (by have := HR.out.1.2.2.1; omega)
    rw [sameQ_refl] at hs
    have hFwC := HW.out.1.trans hFBC
    have HFC := Lib.hid hFwC
    have hGC := hG.below (B := 8) (hFwC.below h8 (by simp)) (by omega)
    have h8C : 8 ≤ WC.heap.size := by have := hFwC.size; omega
    clear hF3 hFC hC1 hFBC hb hFwC hd2 hd4 k0 k1 k2 k3 hWB hx hq
    go_wp2_with fail
    (try rw [hWC])
    go_wp2_with fail
    refine hs.mono ?_
    rintro e w4 ⟨rfl, hF4⟩
    have hk := known_any w4 (hGC.below (B := 8) (hF4.below h8C (by simp)) (by omega)) (by have := hF4.size; omega)
    have HF4 := Lib.hid (HFC.out.trans hF4)
    clear hF4 hs
    go_wp2_with fail
    refine hk.mono ?_
    rintro e w5 ⟨rfl, hF5⟩
    go_wp2_with fail
    go_ret
    exact ⟨rfl, HF4.out.trans hF5⟩
end Go.Proofs.YtaniaknphjnlkaaGreatDoor
