/- TraceqWrites' walk. (Printed by genwrites.py.) -/
import Derived.Test.YtdhmloejgoacaaaGreatDoorTqLentT
import Derived.Test.YtdhmloejgoacaaaGreatDoorMw40
import Derived.Test.YtdhmloejgoacaaaGreatDoorMw46
import Derived.Test.YtdhmloejgoacaaaGreatDoorMw37
import Derived.Test.YtdhmloejgoacaaaGreatDoorMw26
import Derived.Deep.RegionHeld3
set_option linter.unusedVariables false
set_option linter.unusedSimpArgs false
namespace Go.Proofs.YtdhmloejgoacaaaGreatDoor
open Go.RowKit Go.Bl Go.Lq Go.Tq
def worldFrT {S : List Nat} {w w' : World} (_ : Fr S w w') : World := w'
theorem cells8 {WE w' : World} {b : Nat} {x0 x1 x2 x3 x4 x5 x6 x7 : Value} {T : TypeId} (hE : WE.heap[b]? = some (.cells #[x0, x1, x2, x3, x4, x5, x6, x7] T (0, 0))) (hF : Fr [] WE w') :
    w'.cell? ⟨b, 0, none⟩ = some x0 ∧ w'.cell? ⟨b, 1, none⟩ = some x1 ∧ w'.cell? ⟨b, 2, none⟩ = some x2 ∧ w'.cell? ⟨b, 3, none⟩ = some x3 ∧ w'.cell? ⟨b, 4, none⟩ = some x4 ∧ w'.cell? ⟨b, 5, none⟩ = some x5 ∧ w'.cell? ⟨b, 6, none⟩ = some x6 ∧ w'.cell? ⟨b, 7, none⟩ = some x7 := by
  have h := hF.obj hE (by simp)
  exact ⟨cell_of h 0, cell_of h 1, cell_of h 2, cell_of h 3, cell_of h 4, cell_of h 5, cell_of h 6, cell_of h 7⟩
theorem cells24 {WE w' : World} {b1 b2 b3 : Nat} {xa0 xa1 xa2 xa3 xa4 xa5 xa6 xa7 xb0 xb1 xb2 xb3 xb4 xb5 xb6 xb7 xc0 xc1 xc2 xc3 xc4 xc5 xc6 xc7 : Value} {T : TypeId} (h1 : WE.heap[b1]? = some (.cells #[xa0, xa1, xa2, xa3, xa4, xa5, xa6, xa7] T (0, 0))) (h2 : WE.heap[b2]? = some (.cells #[xb0, xb1, xb2, xb3, xb4, xb5, xb6, xb7] T (0, 0))) (h3 : WE.heap[b3]? = some (.cells #[xc0, xc1, xc2, xc3, xc4, xc5, xc6, xc7] T (0, 0))) (hF : Fr [] WE w') :
    w'.cell? ⟨b1, 0, none⟩ = some xa0 ∧ w'.cell? ⟨b1, 1, none⟩ = some xa1 ∧ w'.cell? ⟨b1, 2, none⟩ = some xa2 ∧ w'.cell? ⟨b1, 3, none⟩ = some xa3 ∧ w'.cell? ⟨b1, 4, none⟩ = some xa4 ∧ w'.cell? ⟨b1, 5, none⟩ = some xa5 ∧ w'.cell? ⟨b1, 6, none⟩ = some xa6 ∧ w'.cell? ⟨b1, 7, none⟩ = some xa7 ∧ w'.cell? ⟨b2, 0, none⟩ = some xb0 ∧ w'.cell? ⟨b2, 1, none⟩ = some xb1 ∧ w'.cell? ⟨b2, 2, none⟩ = some xb2 ∧ w'.cell? ⟨b2, 3, none⟩ = some xb3 ∧ w'.cell? ⟨b2, 4, none⟩ = some xb4 ∧ w'.cell? ⟨b2, 5, none⟩ = some xb5 ∧ w'.cell? ⟨b2, 6, none⟩ = some xb6 ∧ w'.cell? ⟨b2, 7, none⟩ = some xb7 ∧ w'.cell? ⟨b3, 0, none⟩ = some xc0 ∧ w'.cell? ⟨b3, 1, none⟩ = some xc1 ∧ w'.cell? ⟨b3, 2, none⟩ = some xc2 ∧ w'.cell? ⟨b3, 3, none⟩ = some xc3 ∧ w'.cell? ⟨b3, 4, none⟩ = some xc4 ∧ w'.cell? ⟨b3, 5, none⟩ = some xc5 ∧ w'.cell? ⟨b3, 6, none⟩ = some xc6 ∧ w'.cell? ⟨b3, 7, none⟩ = some xc7 ∧ Fr [] WE w' := by
  have h1 := hF.obj h1 (by simp)
  have h2 := hF.obj h2 (by simp)
  have h3 := hF.obj h3 (by simp)
  exact ⟨cell_of h1 0, cell_of h1 1, cell_of h1 2, cell_of h1 3, cell_of h1 4, cell_of h1 5, cell_of h1 6, cell_of h1 7, cell_of h2 0, cell_of h2 1, cell_of h2 2, cell_of h2 3, cell_of h2 4, cell_of h2 5, cell_of h2 6, cell_of h2 7, cell_of h3 0, cell_of h3 1, cell_of h3 2, cell_of h3 3, cell_of h3 4, cell_of h3 5, cell_of h3 6, cell_of h3 7, hF⟩
set_option maxRecDepth 100000 in
set_option maxHeartbeats 4000000 in
theorem writesT_any (p o : Tq) (v v2 : Value) (w : World) (hG : GV w) (h8 : 8 ≤ w.heap.size) (hv : TqV w v p) (ho : TqV w v2 o) (hp1 : p.first.mat.length ≤ 2000000) (hp2 : p.second.mat.length ≤ 2000000) :
    Calls Tryz.prog 7 #[v, v2] w fun e w' => e = .returned (.bool true) ∧ Fr [] w w' := by
  obtain ⟨A1, L1, C1, A2, L2, C2, rfl, z1, z2⟩ := hv.cells
  obtain ⟨D1, M1, E1, D2, M2, E2, rfl, z3, z4⟩ := ho.cells
  have HV := Lib.hid hv
  have HO := Lib.hid ho
  clear z1 z2 z3 z4 hv ho
  obtain ⟨X, hX⟩ : ∃ X, w.heap.size = X := ⟨_, rfl⟩
  obtain ⟨WA, hWA⟩ : ∃ WA, (w.alloc (.cells #[.string ⟨p.first.name.toArray⟩, .int .i64 p.first.least, (.slice A1 L1 C1), .string ⟨p.second.name.toArray⟩, .int .i64 p.second.least, (.slice A2 L2 C2), .int .i64 p.has, .int .i64 p.limit] 47)).alloc (.cells #[.string ⟨o.first.name.toArray⟩, .int .i64 o.first.least, (.slice D1 M1 E1), .string ⟨o.second.name.toArray⟩, .int .i64 o.second.least, (.slice D2 M2 E2), .int .i64 o.has, .int .i64 o.limit] 47) = WA := ⟨_, rfl⟩
  have hFA : Fr [] w WA := by rw [← hWA]; exact ((Fr.refl _ _).alloc _).alloc _
  have hB1 : WA.heap[X]? = some (.cells #[.string ⟨p.first.name.toArray⟩, .int .i64 p.first.least, (.slice A1 L1 C1), .string ⟨p.second.name.toArray⟩, .int .i64 p.second.least, (.slice A2 L2 C2), .int .i64 p.has, .int .i64 p.limit] 47 (0, 0)) := by rw [← hWA, ← hX]; exact Go.Bl.heap_alloc_old (Go.Bl.heap_alloc w _) _
  have hB2 : WA.heap[X + 1]? = some (.cells #[.string ⟨o.first.name.toArray⟩, .int .i64 o.first.least, (.slice D1 M1 E1), .string ⟨o.second.name.toArray⟩, .int .i64 o.second.least, (.slice D2 M2 E2), .int .i64 o.has, .int .i64 o.limit] 47 (0, 0)) := by
    rw [← hWA]
    have := Go.Bl.heap_alloc (w.alloc (.cells #[.string ⟨p.first.name.toArray⟩, .int .i64 p.first.least, (.slice A1 L1 C1), .string ⟨p.second.name.toArray⟩, .int .i64 p.second.least, (.slice A2 L2 C2), .int .i64 p.has, .int .i64 p.limit] 47)) (.cells #[.string ⟨o.first.name.toArray⟩, .int .i64 o.first.least, (.slice D1 M1 E1), .string ⟨o.second.name.toArray⟩, .int .i64 o.second.least, (.slice D2 M2 E2), .int .i64 o.has, .int .i64 o.limit] 47)
    rw [size_alloc', hX] at this
    exact this
  have q0 := cell_of hB1 0
  have q1 := cell_of hB1 1
  have q2 := cell_of hB1 2
  have q3 := cell_of hB1 3
  have q4 := cell_of hB1 4
  have q5 := cell_of hB1 5
  have q6 := cell_of hB1 6
  have q7 := cell_of hB1 7
  simp only [List.getElem?_toArray, List.getElem?_cons_zero, List.getElem?_cons_succ] at q0 q1 q2 q3 q4 q5 q6 q7
  have hln := lentT_any p _ WA (HV.out.fr hFA) hp1 hp2
  have HA := Lib.hid (And.intro hFA (And.intro hB1 hB2))
  clear hFA hB1 hB2
  unfold QC at hln
  unfold QC
  go_enter Tryz.func7, Tryz.ntmps7
  go_wp2_with fail
  (try rw [hX])
  (try rw [hWA])
  go_wp2_with fail
  refine hln.mono ?_
  rintro e w1 ⟨v1, rfl, hq1, hF1⟩
  obtain ⟨F1, N1, G1, F2, N2, G2, rfl, z1, z2⟩ := hq1.cells
  have HQ1 := Lib.hid hq1
  clear z1 z2 hq1 hln
  obtain ⟨Y, hY⟩ : ∃ Y, w1.heap.size = Y := ⟨_, rfl⟩
  obtain ⟨WB, hWB⟩ : ∃ WB, w1.alloc (.cells #[.string ⟨p.first.name.toArray⟩, .int .i64 p.first.least, (.slice F1 N1 G1), .string ⟨p.second.name.toArray⟩, .int .i64 p.second.least, (.slice F2 N2 G2), .int .i64 p.has, .int .i64 p.limit] 47) = WB := ⟨_, rfl⟩
  have hFB : Fr [] w1 WB := by rw [← hWB]; exact (Fr.refl _ _).alloc _
  have hB3 : WB.heap[Y]? = some (.cells #[.string ⟨p.first.name.toArray⟩, .int .i64 p.first.least, (.slice F1 N1 G1), .string ⟨p.second.name.toArray⟩, .int .i64 p.second.least, (.slice F2 N2 G2), .int .i64 p.has, .int .i64 p.limit] 47 (0, 0)) := by rw [← hWB, ← hY]; exact Go.Bl.heap_alloc w1 _
  have u0 := cell_of hB3 0
  have u1 := cell_of hB3 1
  have u2 := cell_of hB3 2
  have u3 := cell_of hB3 3
  have u4 := cell_of hB3 4
  have u5 := cell_of hB3 5
  have u6 := cell_of hB3 6
  have u7 := cell_of hB3 7
  simp only [List.getElem?_toArray, List.getElem?_cons_zero, List.getElem?_cons_succ] at u0 u1 u2 u3 u4 u5 u6 u7
  have hFw := (HA.out.1.trans hF1).trans hFB
  have hGB := hG.frn hFw h8
  have h8B := Nat.le_trans h8 hFw.size
  have hpr := printT_any p _ WB hGB h8B (HQ1.out.fr hFB)
  have HB := Lib.hid (And.intro hFw (And.intro hB3 (And.intro (hF1.trans hFB) hFB)))
  clear hFw hB3 hF1 hFB q0 q1 q2 q3 q4 q5 q6 q7
  unfold QC at hpr
  unfold QC
  go_wp2_with fail
  (try rw [hY])
  (try rw [hWB])
  go_wp2_with fail
  refine hpr.mono ?_
  rintro e w2 ⟨rfl, hF2⟩
  have hFw2 := HB.out.1.trans hF2
  have hFA2 := HB.out.2.2.1.trans hF2
  have hbX := hFA2.obj HA.out.2.1 (by simp)
  clear u0 u1 u2 u3 u4 u5 u6 u7
  have q0 := cell_of hbX 0
  have q1 := cell_of hbX 1
  have q2 := cell_of hbX 2
  have q3 := cell_of hbX 3
  have q4 := cell_of hbX 4
  have q5 := cell_of hbX 5
  have q6 := cell_of hbX 6
  have q7 := cell_of hbX 7
  simp only [List.getElem?_toArray, List.getElem?_cons_zero, List.getElem?_cons_succ] at q0 q1 q2 q3 q4 q5 q6 q7
  have hG2 := hG.frn hFw2 h8
  have h82 := Nat.le_trans h8 hFw2.size
  have hpr2 := printTR_any p _ w2 hG2 h82 (HV.out.fr hFw2)
  unfold QC at hpr2
  obtain ⟨S, hS⟩ : ∃ S, printTP p = S := ⟨_, rfl⟩
  obtain ⟨R, hR⟩ : ∃ R, rightT Lib.validD p = R := ⟨_, rfl⟩
  obtain ⟨ST, hST⟩ : ∃ ST : ByteArray, ⟨S.toArray⟩ = ST := ⟨_, rfl⟩
  rw [hS, hR, hST]
  have hST2 := hST
  have HF2 := Lib.hid (And.intro hF2 (And.intro hS (And.intro hR hST)))
  clear hF2 hFw2 hFA2 hpr hWB hWA hbX hS hR hST
  go_wp2_with fail
  refine hpr2.mono ?_
  rintro e w3 ⟨rfl, hF3⟩
  rw [HF2.out.2.1, HF2.out.2.2.1, hST2]
  clear hST2
  have hFw3 := (HB.out.1.trans HF2.out.1).trans hF3
  have hFA3 := (HB.out.2.2.1.trans HF2.out.1).trans hF3
  have hFB3 := HF2.out.1.trans hF3
  have hF13 := HB.out.2.2.2.trans hFB3
  have hh1 := hFA3.obj HA.out.2.1 (by simp)
  have hh2 := hFA3.obj HA.out.2.2 (by simp)
  have hh3 := hFB3.obj HB.out.2.1 (by simp)
  have hG3 := hG.frn hFw3 h8
  have h83 := Nat.le_trans h8 hFw3.size
  obtain ⟨S1, hS1⟩ : ∃ S1, decide (p = o) = S1 := ⟨_, rfl⟩
  have hvP := HV.out.fr hFw3
  have hvO := HO.out.fr hFw3
  have hvQ := HQ1.out.fr hF13
  have K29 : Hid (∀ w', Fr [] w3 w' → Calls Tryz.prog 29 #[.agg #[.string ⟨p.first.name.toArray⟩, .int .i64 p.first.least, (.slice F1 N1 G1), .string ⟨p.second.name.toArray⟩, .int .i64 p.second.least, (.slice F2 N2 G2), .int .i64 p.has, .int .i64 p.limit]] w' fun e w'' => e = .returned (.int .i64 R) ∧ Fr [] w' w'') :=
    fun w' hF => by rw [← HF2.out.2.2.1]; exact rightT_any p _ w' (hG3.frn hF h83) (Nat.le_trans h83 hF.size) (hvQ.fr hF)
  have K30 : Hid (∀ w', Fr [] w3 w' → Calls Tryz.prog 30 #[.agg #[.string ⟨p.first.name.toArray⟩, .int .i64 p.first.least, (.slice A1 L1 C1), .string ⟨p.second.name.toArray⟩, .int .i64 p.second.least, (.slice A2 L2 C2), .int .i64 p.has, .int .i64 p.limit]] w' fun e w'' => e = .returned (.int .i64 R) ∧ Fr [] w' w'') :=
    fun w' hF => by rw [← HF2.out.2.2.1]; exact rightTR_any p _ w' (hG3.frn hF h83) (Nat.le_trans h83 hF.size) (hvP.fr hF)
  have K31a : Hid (∀ w', Fr [] w3 w' → Calls Tryz.prog 31 #[.agg #[.string ⟨p.first.name.toArray⟩, .int .i64 p.first.least, (.slice F1 N1 G1), .string ⟨p.second.name.toArray⟩, .int .i64 p.second.least, (.slice F2 N2 G2), .int .i64 p.has, .int .i64 p.limit], .agg #[.string ⟨o.first.name.toArray⟩, .int .i64 o.first.least, (.slice D1 M1 E1), .string ⟨o.second.name.toArray⟩, .int .i64 o.second.least, (.slice D2 M2 E2), .int .i64 o.has, .int .i64 o.limit]] w' fun e w'' => e = .returned (.bool S1) ∧ Fr [] w' w'') :=
    fun w' hF => by rw [← hS1]; exact sameQ_any p o _ _ w' (hvQ.fr hF) (hvO.fr hF) hp1 hp2
  have K24a : Hid (∀ w', Fr [] w3 w' → Calls Tryz.prog 24 #[.agg #[.string ⟨p.first.name.toArray⟩, .int .i64 p.first.least, (.slice A1 L1 C1), .string ⟨p.second.name.toArray⟩, .int .i64 p.second.least, (.slice A2 L2 C2), .int .i64 p.has, .int .i64 p.limit], .agg #[.string ⟨o.first.name.toArray⟩, .int .i64 o.first.least, (.slice D1 M1 E1), .string ⟨o.second.name.toArray⟩, .int .i64 o.second.least, (.slice D2 M2 E2), .int .i64 o.has, .int .i64 o.limit]] w' fun e w'' => e = .returned (.bool S1) ∧ Fr [] w' w'') :=
    fun w' hF => by rw [← hS1]; exact sameTR_any p o _ _ w' (hvP.fr hF) (hvO.fr hF) hp1 hp2
  have K31b : Hid (∀ w', Fr [] w3 w' → Calls Tryz.prog 31 #[.agg #[.string ⟨p.first.name.toArray⟩, .int .i64 p.first.least, (.slice F1 N1 G1), .string ⟨p.second.name.toArray⟩, .int .i64 p.second.least, (.slice F2 N2 G2), .int .i64 p.has, .int .i64 p.limit], .agg #[.string ⟨p.first.name.toArray⟩, .int .i64 p.first.least, (.slice A1 L1 C1), .string ⟨p.second.name.toArray⟩, .int .i64 p.second.least, (.slice A2 L2 C2), .int .i64 p.has, .int .i64 p.limit]] w' fun e w'' => e = .returned (.bool true) ∧ Fr [] w' w'') :=
    fun w' hF => by have := sameQ_any p p _ _ w' (hvQ.fr hF) (hvP.fr hF) hp1 hp2; rw [decide_eq_true (rfl : p = p)] at this; exact this
  have K24b : Hid (∀ w', Fr [] w3 w' → Calls Tryz.prog 24 #[.agg #[.string ⟨p.first.name.toArray⟩, .int .i64 p.first.least, (.slice F1 N1 G1), .string ⟨p.second.name.toArray⟩, .int .i64 p.second.least, (.slice F2 N2 G2), .int .i64 p.has, .int .i64 p.limit], .agg #[.string ⟨p.first.name.toArray⟩, .int .i64 p.first.least, (.slice A1 L1 C1), .string ⟨p.second.name.toArray⟩, .int .i64 p.second.least, (.slice A2 L2 C2), .int .i64 p.has, .int .i64 p.limit]] w' fun e w'' => e = .returned (.bool true) ∧ Fr [] w' w'') :=
    fun w' hF => by have := sameTR_any p p _ _ w' (hvQ.fr hF) (hvP.fr hF) hp1 hp2; rw [decide_eq_true (rfl : p = p)] at this; exact this
  have HH := Lib.hid (And.intro hh1 (And.intro hh2 (And.intro hh3 (And.intro hFw3 hvP))))
  clear hFw3 hFA3 hFB3 hF13 hh1 hh2 hh3 hvP hvO hvQ hS1 hF3 hpr2 q0 q1 q2 q3 q4 q5 q6 q7
  go_upto_region 4 with fail
  go_region_held3 (fun w' => w'.cell? ⟨X, 0, none⟩ = some (.string ⟨p.first.name.toArray⟩) ∧ w'.cell? ⟨X, 1, none⟩ = some (.int .i64 p.first.least) ∧ w'.cell? ⟨X, 2, none⟩ = some ((.slice A1 L1 C1)) ∧ w'.cell? ⟨X, 3, none⟩ = some (.string ⟨p.second.name.toArray⟩) ∧ w'.cell? ⟨X, 4, none⟩ = some (.int .i64 p.second.least) ∧ w'.cell? ⟨X, 5, none⟩ = some ((.slice A2 L2 C2)) ∧ w'.cell? ⟨X, 6, none⟩ = some (.int .i64 p.has) ∧ w'.cell? ⟨X, 7, none⟩ = some (.int .i64 p.limit) ∧ w'.cell? ⟨(X + 1), 0, none⟩ = some (.string ⟨o.first.name.toArray⟩) ∧ w'.cell? ⟨(X + 1), 1, none⟩ = some (.int .i64 o.first.least) ∧ w'.cell? ⟨(X + 1), 2, none⟩ = some ((.slice D1 M1 E1)) ∧ w'.cell? ⟨(X + 1), 3, none⟩ = some (.string ⟨o.second.name.toArray⟩) ∧ w'.cell? ⟨(X + 1), 4, none⟩ = some (.int .i64 o.second.least) ∧ w'.cell? ⟨(X + 1), 5, none⟩ = some ((.slice D2 M2 E2)) ∧ w'.cell? ⟨(X + 1), 6, none⟩ = some (.int .i64 o.has) ∧ w'.cell? ⟨(X + 1), 7, none⟩ = some (.int .i64 o.limit) ∧ w'.cell? ⟨Y, 0, none⟩ = some (.string ⟨p.first.name.toArray⟩) ∧ w'.cell? ⟨Y, 1, none⟩ = some (.int .i64 p.first.least) ∧ w'.cell? ⟨Y, 2, none⟩ = some ((.slice F1 N1 G1)) ∧ w'.cell? ⟨Y, 3, none⟩ = some (.string ⟨p.second.name.toArray⟩) ∧ w'.cell? ⟨Y, 4, none⟩ = some (.int .i64 p.second.least) ∧ w'.cell? ⟨Y, 5, none⟩ = some ((.slice F2 N2 G2)) ∧ w'.cell? ⟨Y, 6, none⟩ = some (.int .i64 p.has) ∧ w'.cell? ⟨Y, 7, none⟩ = some (.int .i64 p.limit) ∧ Fr [] w3 w') (exact cells24 HH.out.1 HH.out.2.1 HH.out.2.2.1 (by (repeat (first | with_reducible exact Fr.refl _ _ | assumption | with_reducible refine Fr.drew ?_ | with_reducible refine Fr.drewN ?_ _)))) (first | (go_at_call 29; refine (K29.out _ (by (repeat (first | with_reducible exact Fr.refl _ _ | assumption | with_reducible refine Fr.drew ?_ | with_reducible refine Fr.drewN ?_ _)))).mono ?_; rintro e w4 ⟨rfl, hF4⟩; have hX4 : Fr [] w3 w4 := Fr.trans (by (repeat (first | with_reducible exact Fr.refl _ _ | assumption | with_reducible refine Fr.drew ?_ | with_reducible refine Fr.drewN ?_ _))) hF4) | (go_at_call 30; refine (K30.out _ (by (repeat (first | with_reducible exact Fr.refl _ _ | assumption | with_reducible refine Fr.drew ?_ | with_reducible refine Fr.drewN ?_ _)))).mono ?_; rintro e w4 ⟨rfl, hF4⟩; have hX4 : Fr [] w3 w4 := Fr.trans (by (repeat (first | with_reducible exact Fr.refl _ _ | assumption | with_reducible refine Fr.drew ?_ | with_reducible refine Fr.drewN ?_ _))) hF4) | (go_at_call 31; (first | (with_reducible refine (K31a.out _ (by (repeat (first | with_reducible exact Fr.refl _ _ | assumption | with_reducible refine Fr.drew ?_ | with_reducible refine Fr.drewN ?_ _)))).mono ?_) | (with_reducible refine (K31b.out _ (by (repeat (first | with_reducible exact Fr.refl _ _ | assumption | with_reducible refine Fr.drew ?_ | with_reducible refine Fr.drewN ?_ _)))).mono ?_)); rintro e w4 ⟨rfl, hF4⟩; have hX4 : Fr [] w3 w4 := Fr.trans (by (repeat (first | with_reducible exact Fr.refl _ _ | assumption | with_reducible refine Fr.drew ?_ | with_reducible refine Fr.drewN ?_ _))) hF4) | (go_at_call 24; (first | (with_reducible refine (K24a.out _ (by (repeat (first | with_reducible exact Fr.refl _ _ | assumption | with_reducible refine Fr.drew ?_ | with_reducible refine Fr.drewN ?_ _)))).mono ?_) | (with_reducible refine (K24b.out _ (by (repeat (first | with_reducible exact Fr.refl _ _ | assumption | with_reducible refine Fr.drew ?_ | with_reducible refine Fr.drewN ?_ _)))).mono ?_)); rintro e w4 ⟨rfl, hF4⟩; have hX4 : Fr [] w3 w4 := Fr.trans (by (repeat (first | with_reducible exact Fr.refl _ _ | assumption | with_reducible refine Fr.drew ?_ | with_reducible refine Fr.drewN ?_ _))) hF4))
  all_goals
    rename_i hh
    obtain ⟨y0, y1, y2, y3, y4, y5, y6, y7, y8, y9, y10, y11, y12, y13, y14, y15, y16, y17, y18, y19, y20, y21, y22, y23, yF⟩ := hh
    obtain ⟨w4, hw4⟩ : ∃ w4, w4 = worldFrT yF := ⟨_, rfl⟩
    dsimp only [worldFrT] at hw4
    rw [← hw4] at y0 y1 y2 y3 y4 y5 y6 y7 y8 y9 y10 y11 y12 y13 y14 y15 y16 y17 y18 y19 y20 y21 y22 y23 yF ⊢
    clear hw4
    have hFw4 := HH.out.2.2.2.1.trans yF
    have hG4 := hG.frn hFw4 h8
    have h84 := Nat.le_trans h8 hFw4.size
    have HF4 := Lib.hid hFw4
    clear hFw4 yF
    by_cases hr : R = 0
    · have hrt : rightT Lib.validD p = 0 := by rw [HF2.out.2.2.1]; exact hr
      subst hr
      have hpS : printTP p = textT p := by unfold printTP; rw [if_pos hrt]
      have hSt : ST.data.toList = textT p := by rw [← HF2.out.2.2.2, ← HF2.out.2.1, hpS]
      have hbk := parseT_back hrt
      have hpa := parseT_any ST w4 hG4 (.inr (by rw [hSt]; exact limOk_text (rightT_fine hrt).1)) h84
      have HPB := Lib.hid (And.intro hbk (And.intro hSt hrt))
      clear hrt hpS hSt hbk
      go_wp2_with fail
      refine hpa.mono ?_
      rintro e w5 ⟨v5, n5, rfl, hv5, hF5, _⟩
      rw [HPB.out.2.1, HPB.out.1] at hv5 ⊢
      dsimp only at hv5 ⊢
      obtain ⟨H1, K1, I1, H2, K2, I2, rfl, hd1, hd2⟩ := hv5.cells
      obtain ⟨Z, hZ⟩ : ∃ Z, w5.heap.size = Z := ⟨_, rfl⟩
      obtain ⟨WC, hWC⟩ : ∃ WC, w5.alloc (.cells #[.string ⟨p.first.name.toArray⟩, .int .i64 p.first.least, (.slice H1 K1 I1), .string ⟨p.second.name.toArray⟩, .int .i64 p.second.least, (.slice H2 K2 I2), .int .i64 p.has, .int .i64 p.limit] 47) = WC := ⟨_, rfl⟩
      have hFC : Fr [] w5 WC := by rw [← hWC]; exact (Fr.refl _ _).alloc _
      have hC1 : WC.heap[Z]? = some (.cells #[.string ⟨p.first.name.toArray⟩, .int .i64 p.first.least, (.slice H1 K1 I1), .string ⟨p.second.name.toArray⟩, .int .i64 p.second.least, (.slice H2 K2 I2), .int .i64 p.has, .int .i64 p.limit] 47 (0, 0)) := by rw [← hWC, ← hZ]; exact Go.Bl.heap_alloc w5 _
      have hFwC := (HF4.out.trans hF5).trans hFC
      clear y8 y9 y10 y11 y12 y13 y14 y15 y16 y17 y18 y19 y20 y21 y22 y23
      have u0 := cell_frS (hF5.trans hFC) y0 (by simp)
      have u1 := cell_frS (hF5.trans hFC) y1 (by simp)
      have u2 := cell_frS (hF5.trans hFC) y2 (by simp)
      have u3 := cell_frS (hF5.trans hFC) y3 (by simp)
      have u4 := cell_frS (hF5.trans hFC) y4 (by simp)
      have u5 := cell_frS (hF5.trans hFC) y5 (by simp)
      have u6 := cell_frS (hF5.trans hFC) y6 (by simp)
      have u7 := cell_frS (hF5.trans hFC) y7 (by simp)
      have q0 := cell_of hC1 0
      have q1 := cell_of hC1 1
      have q2 := cell_of hC1 2
      have q3 := cell_of hC1 3
      have q4 := cell_of hC1 4
      have q5 := cell_of hC1 5
      have q6 := cell_of hC1 6
      have q7 := cell_of hC1 7
      simp only [List.getElem?_toArray, List.getElem?_cons_zero, List.getElem?_cons_succ] at q0 q1 q2 q3 q4 q5 q6 q7
      have hs := sameTR_any p p _ _ WC (hv5.fr hFC) (HV.out.fr hFwC) hp1 hp2
      rw [decide_eq_true (rfl : p = p)] at hs
      have hGC := hG.frn hFwC h8
      have h8C := Nat.le_trans h8 hFwC.size
      have HFC := Lib.hid hFwC
      clear hF5 hFC hC1 hFwC hpa y0 y1 y2 y3 y4 y5 y6 y7 hd1 hd2 hv5
      unfold QC at hs
      unfold QC
      go_wp2_with fail
      (try rw [hZ])
      (try rw [hWC])
      go_wp2_with fail
      refine hs.mono ?_
      rintro e w6 ⟨rfl, hF6⟩
      have hk := knownT_any w6 (hGC.frn hF6 h8C) (Nat.le_trans h8C hF6.size)
      have HF6 := Lib.hid (HFC.out.trans hF6)
      clear hF6 hs
      go_wp2_with fail
      refine hk.mono ?_
      rintro e w7 ⟨rfl, hF7⟩
      go_wp2_with fail
      go_ret
      exact ⟨rfl, HF6.out.trans hF7⟩
    · have q1 : (R == 0) = false := by simpa using hr
      have q2 : (R != 0) = true := by simpa using hr
      have hk := knownT_any w4 hG4 h84
      clear hr
      go_wp2_with fail
      refine hk.mono ?_
      rintro e w7 ⟨rfl, hF7⟩
      go_wp2_with fail
      go_ret
      exact ⟨rfl, HF4.out.trans hF7⟩
end Go.Proofs.YtdhmloejgoacaaaGreatDoor
