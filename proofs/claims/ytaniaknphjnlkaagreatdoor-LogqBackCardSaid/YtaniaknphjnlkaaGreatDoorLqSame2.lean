/- The reference's Same. -/
import Derived.Test.YtaniaknphjnlkaaGreatDoorLqSame
namespace Go.Proofs.YtaniaknphjnlkaaGreatDoor
open Go.RowKit Go.Bl Go.Lq

def sameQ (a b : Qy) : Bool := decide (a.mat = b.mat) && (decide (a.level = b.level) && (decide (a.tests = b.tests) && decide (a.limit = b.limit)))
theorem sameQ_refl (a : Qy) : sameQ a a = true := by simp [sameQ]
set_option maxRecDepth 100000 in
set_option maxHeartbeats 800000 in
theorem sameR_any (p q : Qy) (v1 v2 : Value) (w : World) (h1 : QyV w v1 p) (h2 : QyV w v2 q) (hl1 : p.mat.length ≤ 2000000) (hl2 : p.tests.length ≤ 2000000) :
    Calls Tryz.prog 7 #[v1, v2] w fun e w' => e = .returned (.bool (sameQ p q)) ∧ Fr [] w w' := by
  obtain ⟨a2, a4, rfl, m2, m4⟩ := h1
  obtain ⟨b2, b4, rfl, n2, n4⟩ := h2
  obtain ⟨WA, hWA⟩ : ∃ WA, (w.alloc (.cells #[a2, .int .i64 p.level, a4, .int .i64 p.limit] 24)).alloc (.cells #[b2, .int .i64 q.level, b4, .int .i64 q.limit] 24) = WA := ⟨_, rfl⟩
  have hFA : Fr [] w WA := by rw [← hWA]; exact ((Fr.refl _ _).alloc _).alloc _
  have hB0 : WA.heap[w.heap.size]? = some (.cells #[a2, .int .i64 p.level, a4, .int .i64 p.limit] 24 (0, 0)) := by rw [← hWA]; exact Go.Bl.heap_alloc_old (heap_alloc w _) _
  have hB1 : WA.heap[w.heap.size + 1]? = some (.cells #[b2, .int .i64 q.level, b4, .int .i64 q.limit] 24 (0, 0)) := by
    rw [← hWA]
    have := heap_alloc (w.alloc (.cells #[a2, .int .i64 p.level, a4, .int .i64 p.limit] 24)) (.cells #[b2, .int .i64 q.level, b4, .int .i64 q.limit] 24)
    rw [size_alloc'] at this
    exact this
  have x0 := cell_of hB0 0
  have y0 := cell_of hB1 0
  simp only [List.getElem?_toArray, List.getElem?_cons_zero] at x0 y0
  have hs1 := sameMatch_any p.mat q.mat a2 b2 WA (m2.fr hFA) (n2.fr hFA) hl1
  unfold sameQ
  obtain ⟨c1, hc1⟩ : ∃ c1, decide (p.mat = q.mat) = c1 := ⟨_, rfl⟩
  obtain ⟨c3, hc3⟩ : ∃ c3, decide (p.tests = q.tests) = c3 := ⟨_, rfl⟩
  obtain ⟨c2, hc2⟩ : ∃ c2, decide (p.level = q.level) = c2 := ⟨_, rfl⟩
  obtain ⟨c4, hc4⟩ : ∃ c4, decide (p.limit = q.limit) = c4 := ⟨_, rfl⟩
  have e2 : (p.level == q.level) = c2 := by rw [← hc2]; rfl
  have e4 : (p.limit == q.limit) = c4 := by rw [← hc4]; rfl
  rw [hc1] at hs1
  rw [hc1, hc2, hc3, hc4]
  have HH := Lib.hid (And.intro hFA (And.intro hB0 (And.intro hB1 (And.intro m4 (And.intro n4 hc3)))))
  clear hFA hB0 hB1 m2 m4 n2 n4 hc1 hc2 hc3 hc4
  go_enter Tryz.func7, Tryz.ntmps7
  go_wp2_with fail
  (try rw [hWA])
  go_wp2_with fail
  refine hs1.mono ?_
  rintro e w1 ⟨rfl, hF1⟩
  have hb0 := hF1.obj HH.out.2.1 (by simp)
  have hb1 := hF1.obj HH.out.2.2.1 (by simp)
  have k1 := cell_of hb0 1
  have k2 := cell_of hb0 2
  have k3 := cell_of hb0 3
  have l1 := cell_of hb1 1
  have l2 := cell_of hb1 2
  have l3 := cell_of hb1 3
  simp only [List.getElem?_toArray, List.getElem?_cons_zero, List.getElem?_cons_succ] at k1 k2 k3 l1 l2 l3
  have hs2 := sameMatch_any p.tests q.tests a4 b4 w1 ((HH.out.2.2.2.1.fr HH.out.1).fr hF1) ((HH.out.2.2.2.2.1.fr HH.out.1).fr hF1) hl2
  rw [HH.out.2.2.2.2.2] at hs2
  have HF1 := Lib.hid (And.intro (HH.out.1.trans hF1) (And.intro hb0 hb1))
  clear hF1 hb0 hb1 hs1 hWA
  cases c1 with
  | false =>
    go_wp2
    go_ret
    exact ⟨rfl, HF1.out.1⟩
  | true =>
    cases c2 with
    | false =>
      go_wp2
      go_ret
      exact ⟨rfl, HF1.out.1⟩
    | true =>
      go_wp2_with fail
      refine hs2.mono ?_
      rintro e w2 ⟨rfl, hF2⟩
      have hb0 := hF2.obj HF1.out.2.1 (by simp)
      have hb1 := hF2.obj HF1.out.2.2 (by simp)
      have u3 := cell_of hb0 3
      have v3 := cell_of hb1 3
      simp only [List.getElem?_toArray, List.getElem?_cons_zero, List.getElem?_cons_succ] at u3 v3
      have HF2 := Lib.hid (HF1.out.1.trans hF2)
      clear hF2 hb0 hb1 k1 k2 k3 l1 l2 l3
      cases c3 with
      | false =>
        go_wp2
        go_ret
        exact ⟨rfl, HF2.out⟩
      | true =>
        go_wp2
        go_ret
        exact ⟨by simp_all, HF2.out⟩
end Go.Proofs.YtaniaknphjnlkaaGreatDoor
