/- LogqWrites' walk. -/
import Derived.Test.YtaniaknphjnlkaaGreatDoorLqLent
import Derived.Test.YtaniaknphjnlkaaGreatDoorMw44
import Derived.Test.YtaniaknphjnlkaaGreatDoorLqKnown
import Derived.Deep.RegionHeld3
namespace Go.Proofs.YtaniaknphjnlkaaGreatDoor
open Go.RowKit Go.Bl Go.Lq

theorem cells4 {WE w' : World} {b : Nat} {x y z u : Value} {T : TypeId} (hE : WE.heap[b]? = some (.cells #[x, y, z, u] T (0, 0))) (hF : Fr [] WE w') :
    w'.cell? ⟨b, 0, none⟩ = some x ∧ w'.cell? ⟨b, 1, none⟩ = some y ∧ w'.cell? ⟨b, 2, none⟩ = some z ∧ w'.cell? ⟨b, 3, none⟩ = some u := by
  have h := hF.obj hE (by simp)
  exact ⟨cell_of h 0, cell_of h 1, cell_of h 2, cell_of h 3⟩
theorem cells12 {WE w' : World} {b1 b2 b3 : Nat} {x1 y1 z1 u1 x2 y2 z2 u2 x3 y3 z3 u3 : Value} {T : TypeId} (h1 : WE.heap[b1]? = some (.cells #[x1, y1, z1, u1] T (0, 0))) (h2 : WE.heap[b2]? = some (.cells #[x2, y2, z2, u2] T (0, 0))) (h3 : WE.heap[b3]? = some (.cells #[x3, y3, z3, u3] T (0, 0))) (hF : Fr [] WE w') :
    w'.cell? ⟨b1, 0, none⟩ = some x1 ∧ w'.cell? ⟨b1, 1, none⟩ = some y1 ∧ w'.cell? ⟨b1, 2, none⟩ = some z1 ∧ w'.cell? ⟨b1, 3, none⟩ = some u1 ∧
    w'.cell? ⟨b2, 0, none⟩ = some x2 ∧ w'.cell? ⟨b2, 1, none⟩ = some y2 ∧ w'.cell? ⟨b2, 2, none⟩ = some z2 ∧ w'.cell? ⟨b2, 3, none⟩ = some u2 ∧
    w'.cell? ⟨b3, 0, none⟩ = some x3 ∧ w'.cell? ⟨b3, 1, none⟩ = some y3 ∧ w'.cell? ⟨b3, 2, none⟩ = some z3 ∧ w'.cell? ⟨b3, 3, none⟩ = some u3 ∧ Fr [] WE w' := by
  obtain ⟨a0, a1, a2, a3⟩ := cells4 h1 hF
  obtain ⟨b0, b1, b2, b3⟩ := cells4 h2 hF
  obtain ⟨c0, c1, c2, c3⟩ := cells4 h3 hF
  exact ⟨a0, a1, a2, a3, b0, b1, b2, b3, c0, c1, c2, c3, hF⟩
set_option maxRecDepth 100000 in
set_option maxHeartbeats 4000000 in
theorem writes_any (p o : Qy) (v v2 : Value) (w : World) (hG : GV w) (h8 : 8 ≤ w.heap.size) (hv : QyV w v p) (ho : QyV w v2 o) (hp1 : p.mat.length ≤ 2000000) (hp2 : p.tests.length ≤ 2000000) (ho1 : o.mat.length ≤ 2000000) (ho2 : o.tests.length ≤ 2000000) :
    Calls Tryz.prog 4 #[v, v2] w fun e w' => e = .returned (.bool true) ∧ Fr [] w w' := by
  have HV := Lib.hid hv
  have HO := Lib.hid ho
  obtain ⟨_, _, rfl, ⟨A2, p2, rfl, z1, z2⟩, ⟨A4, p4, rfl, z3, z4⟩⟩ := hv
  obtain ⟨_, _, rfl, ⟨D2, r2, rfl, z5, z6⟩, ⟨D4, r4, rfl, z7, z8⟩⟩ := ho
  clear z1 z2 z3 z4 z5 z6 z7 z8
  obtain ⟨WA, hWA⟩ : ∃ WA, (w.alloc (.cells #[.slice A2 p.mat.length p2, .int .i64 p.level, .slice A4 p.tests.length p4, .int .i64 p.limit] 24)).alloc (.cells #[.slice D2 o.mat.length r2, .int .i64 o.level, .slice D4 o.tests.length r4, .int .i64 o.limit] 24) = WA := ⟨_, rfl⟩
  have hFA : Fr [] w WA := by rw [← hWA]; exact ((Fr.refl _ _).alloc _).alloc _
  have hB1 : WA.heap[w.heap.size]? = some (.cells #[.slice A2 p.mat.length p2, .int .i64 p.level, .slice A4 p.tests.length p4, .int .i64 p.limit] 24 (0, 0)) := by rw [← hWA]; exact Go.Bl.heap_alloc_old (heap_alloc w _) _
  have hB2 : WA.heap[w.heap.size + 1]? = some (.cells #[.slice D2 o.mat.length r2, .int .i64 o.level, .slice D4 o.tests.length r4, .int .i64 o.limit] 24 (0, 0)) := by
    rw [← hWA]
    have := heap_alloc (w.alloc (.cells #[.slice A2 p.mat.length p2, .int .i64 p.level, .slice A4 p.tests.length p4, .int .i64 p.limit] 24)) (.cells #[.slice D2 o.mat.length r2, .int .i64 o.level, .slice D4 o.tests.length r4, .int .i64 o.limit] 24)
    rw [size_alloc'] at this
    exact this
  obtain ⟨a0, a1, a2, a3⟩ := cells4 hB1 (Fr.refl [] WA)
  have hln := lent_any p _ WA (HV.out.fr hFA) hp1 hp2
  have HA := Lib.hid (And.intro hFA (And.intro hB1 hB2))
  clear hFA hB1 hB2
  go_enter Tryz.func4, Tryz.ntmps4
  go_wp2_with fail
  (try rw [hWA])
  go_wp2_with fail
  refine hln.mono ?_
  rintro e w1 ⟨v1, rfl, hq1, hF1⟩
  have HQ1 := Lib.hid hq1
  obtain ⟨_, _, rfl, ⟨E2, s2, rfl, z1, z2⟩, ⟨E4, s4, rfl, z3, z4⟩⟩ := hq1
  clear z1 z2 z3 z4
  obtain ⟨WB, hWB⟩ : ∃ WB, w1.alloc (.cells #[.slice E2 p.mat.length s2, .int .i64 p.level, .slice E4 p.tests.length s4, .int .i64 p.limit] 24) = WB := ⟨_, rfl⟩
  have hFB : Fr [] w1 WB := by rw [← hWB]; exact (Fr.refl _ _).alloc _
  have hB3 : WB.heap[w1.heap.size]? = some (.cells #[.slice E2 p.mat.length s2, .int .i64 p.level, .slice E4 p.tests.length s4, .int .i64 p.limit] 24 (0, 0)) := by rw [← hWB]; exact heap_alloc w1 _
  obtain ⟨b0, b1, b2, b3⟩ := cells4 hB3 (Fr.refl [] WB)
  have hFw := (HA.out.1.trans hF1).trans hFB
  have hGB := hG.below (B := 8) (hFw.below h8 (by simp)) (by omega)
  have h8B : 8 ≤ WB.heap.size := by have := hFw.size; omega
  have hpr := print_any p _ WB hGB h8B (HQ1.out.fr hFB)
  obtain ⟨⟨PZ, PE⟩, hpp⟩ : ∃ x, printP Lib.validD p = x := ⟨_, rfl⟩
  rw [hpp] at hpr
  dsimp only at hpr
  obtain ⟨Z, hZ⟩ : ∃ Z : ByteArray, ⟨PZ.toArray⟩ = Z := ⟨_, rfl⟩
  rw [hZ] at hpr
  have HB := Lib.hid (And.intro hFw (And.intro hB3 (And.intro (hF1.trans hFB) (And.intro hFB (And.intro hpp hZ)))))
  clear hFw hB3 hF1 hFB hpp hZ hWA hln a0 a1 a2 a3
  go_wp2_with fail
  (try rw [hWB])
  go_wp2_with fail
  refine hpr.mono ?_
  rintro e w2 ⟨rfl, hF2⟩
  have hFw2 := HB.out.1.trans hF2
  have hFA2 := HB.out.2.2.1.trans hF2
  obtain ⟨c0, c1, c2, c3⟩ := cells4 HA.out.2.1 hFA2
  have hG2 := hG.below (B := 8) (hFw2.below h8 (by simp)) (by omega)
  have h82 : 8 ≤ w2.heap.size := by have := hFw2.size; omega
  have hpr2 := printR_any p _ w2 hG2 h82 (HV.out.fr hFw2)
  rw [HB.out.2.2.2.2.1] at hpr2
  dsimp only at hpr2
  rw [HB.out.2.2.2.2.2] at hpr2
  have HF2 := Lib.hid hF2
  clear hF2 hFw2 hFA2 hpr hWB b0 b1 b2 b3
  go_wp2_with fail
  refine hpr2.mono ?_
  rintro e w3 ⟨rfl, hF3⟩
  have hFw3 := (HB.out.1.trans HF2.out).trans hF3
  have hFA3 := (HB.out.2.2.1.trans HF2.out).trans hF3
  have hFB3 := HF2.out.trans hF3
  have hF13 := HB.out.2.2.2.1.trans hFB3
  have hh1 := hFA3.obj HA.out.2.1 (by simp)
  have hh2 := hFA3.obj HA.out.2.2 (by simp)
  have hh3 := hFB3.obj HB.out.2.1 (by simp)
  have hG3 := hG.below (B := 8) (hFw3.below h8 (by simp)) (by omega)
  have h83 : 8 ≤ w3.heap.size := by have := hFw3.size; omega
  obtain ⟨R, hR⟩ : ∃ R, rightQ Lib.validD p = R := ⟨_, rfl⟩
  obtain ⟨S1, hS1⟩ : ∃ S1, sameQ p o = S1 := ⟨_, rfl⟩
  have hvP := HV.out.fr hFw3
  have hvO := HO.out.fr hFw3
  have hvQ := HQ1.out.fr hF13
  have K12 : Hid (∀ w', Fr [] w3 w' → Calls Tryz.prog 12 #[.agg #[.slice E2 p.mat.length s2, .int .i64 p.level, .slice E4 p.tests.length s4, .int .i64 p.limit]] w' fun e w'' => e = .returned (.int .i64 R) ∧ Fr [] w' w'') :=
    fun w' hF => by rw [← hR]; exact right_any p _ w' (hG3.below (B := 8) (hF.below h83 (by simp)) (by omega)) (by have := hF.size; omega) (hvQ.fr hF)
  have K13 : Hid (∀ w', Fr [] w3 w' → Calls Tryz.prog 13 #[.agg #[.slice A2 p.mat.length p2, .int .i64 p.level, .slice A4 p.tests.length p4, .int .i64 p.limit]] w' fun e w'' => e = .returned (.int .i64 R) ∧ Fr [] w' w'') :=
    fun w' hF => by rw [← hR]; exact rightR_any p _ w' (hG3.below (B := 8) (hF.below h83 (by simp)) (by omega)) (by have := hF.size; omega) (hvP.fr hF)
  have K14a : Hid (∀ w', Fr [] w3 w' → Calls Tryz.prog 14 #[.agg #[.slice E2 p.mat.length s2, .int .i64 p.level, .slice E4 p.tests.length s4, .int .i64 p.limit], .agg #[.slice D2 o.mat.length r2, .int .i64 o.level, .slice D4 o.tests.length r4, .int .i64 o.limit]] w' fun e w'' => e = .returned (.bool S1) ∧ Fr [] w' w'') :=
    fun w' hF => by rw [← hS1]; exact sameE_any p o _ _ w' (hvQ.fr hF) (hvO.fr hF) hp1 hp2
  have K7a : Hid (∀ w', Fr [] w3 w' → Calls Tryz.prog 7 #[.agg #[.slice A2 p.mat.length p2, .int .i64 p.level, .slice A4 p.tests.length p4, .int .i64 p.limit], .agg #[.slice D2 o.mat.length r2, .int .i64 o.level, .slice D4 o.tests.length r4, .int .i64 o.limit]] w' fun e w'' => e = .returned (.bool S1) ∧ Fr [] w' w'') :=
    fun w' hF => by rw [← hS1]; exact sameR_any p o _ _ w' (hvP.fr hF) (hvO.fr hF) hp1 hp2
  have K14b : Hid (∀ w', Fr [] w3 w' → Calls Tryz.prog 14 #[.agg #[.slice E2 p.mat.length s2, .int .i64 p.level, .slice E4 p.tests.length s4, .int .i64 p.limit], .agg #[.slice A2 p.mat.length p2, .int .i64 p.level, .slice A4 p.tests.length p4, .int .i64 p.limit]] w' fun e w'' => e = .returned (.bool true) ∧ Fr [] w' w'') :=
    fun w' hF => by have := sameE_any p p _ _ w' (hvQ.fr hF) (hvP.fr hF) hp1 hp2; rw [sameQ_refl] at this; exact this
  have K7b : Hid (∀ w', Fr [] w3 w' → Calls Tryz.prog 7 #[.agg #[.slice E2 p.mat.length s2, .int .i64 p.level, .slice E4 p.tests.length s4, .int .i64 p.limit], .agg #[.slice A2 p.mat.length p2, .int .i64 p.level, .slice A4 p.tests.length p4, .int .i64 p.limit]] w' fun e w'' => e = .returned (.bool true) ∧ Fr [] w' w'') :=
    fun w' hF => by have := sameR_any p p _ _ w' (hvQ.fr hF) (hvP.fr hF) hp1 hp2; rw [sameQ_refl] at this; exact this
  have HH := Lib.hid (And.intro hh1 (And.intro hh2 (And.intro hh3 (And.intro hFw3 hvP))))
  clear hFw3 hFA3 hFB3 hF13 hh1 hh2 hh3 hvP hvO hvQ hR hS1 hF3 hpr2 c0 c1 c2 c3
  go_upto_region 4 with fail
  go_region_held3 (fun w' => w'.cell? ⟨w.heap.size, 0, none⟩ = some (.slice A2 p.mat.length p2) ∧ w'.cell? ⟨w.heap.size, 1, none⟩ = some (.int .i64 p.level) ∧ w'.cell? ⟨w.heap.size, 2, none⟩ = some (.slice A4 p.tests.length p4) ∧ w'.cell? ⟨w.heap.size, 3, none⟩ = some (.int .i64 p.limit) ∧ w'.cell? ⟨w.heap.size + 1, 0, none⟩ = some (.slice D2 o.mat.length r2) ∧ w'.cell? ⟨w.heap.size + 1, 1, none⟩ = some (.int .i64 o.level) ∧ w'.cell? ⟨w.heap.size + 1, 2, none⟩ = some (.slice D4 o.tests.length r4) ∧ w'.cell? ⟨w.heap.size + 1, 3, none⟩ = some (.int .i64 o.limit) ∧ w'.cell? ⟨w1.heap.size, 0, none⟩ = some (.slice E2 p.mat.length s2) ∧ w'.cell? ⟨w1.heap.size, 1, none⟩ = some (.int .i64 p.level) ∧ w'.cell? ⟨w1.heap.size, 2, none⟩ = some (.slice E4 p.tests.length s4) ∧ w'.cell? ⟨w1.heap.size, 3, none⟩ = some (.int .i64 p.limit) ∧ Fr [] w3 w') (exact cells12 HH.out.1 HH.out.2.1 HH.out.2.2.1 (by (repeat (first | with_reducible exact Fr.refl _ _ | assumption | with_reducible refine Fr.drew ?_)))) (first | (go_at_call 12; refine (K12.out _ (by (repeat (first | with_reducible exact Fr.refl _ _ | assumption | with_reducible refine Fr.drew ?_)))).mono ?_; rintro e w4 ⟨rfl, hF4⟩; have hX : Fr [] w3 w4 := Fr.trans (by (repeat (first | with_reducible exact Fr.refl _ _ | assumption | with_reducible refine Fr.drew ?_))) hF4) | (go_at_call 13; refine (K13.out _ (by (repeat (first | with_reducible exact Fr.refl _ _ | assumption | with_reducible refine Fr.drew ?_)))).mono ?_; rintro e w4 ⟨rfl, hF4⟩; have hX : Fr [] w3 w4 := Fr.trans (by (repeat (first | with_reducible exact Fr.refl _ _ | assumption | with_reducible refine Fr.drew ?_))) hF4) | (go_at_call 14; (first | (with_reducible refine (K14a.out _ (by (repeat (first | with_reducible exact Fr.refl _ _ | assumption | with_reducible refine Fr.drew ?_)))).mono ?_) | (with_reducible refine (K14b.out _ (by (repeat (first | with_reducible exact Fr.refl _ _ | assumption | with_reducible refine Fr.drew ?_)))).mono ?_)); rintro e w4 ⟨rfl, hF4⟩; have hX : Fr [] w3 w4 := Fr.trans (by (repeat (first | with_reducible exact Fr.refl _ _ | assumption | with_reducible refine Fr.drew ?_))) hF4) | (go_at_call 7; (first | (with_reducible refine (K7a.out _ (by (repeat (first | with_reducible exact Fr.refl _ _ | assumption | with_reducible refine Fr.drew ?_)))).mono ?_) | (with_reducible refine (K7b.out _ (by (repeat (first | with_reducible exact Fr.refl _ _ | assumption | with_reducible refine Fr.drew ?_)))).mono ?_)); rintro e w4 ⟨rfl, hF4⟩; have hX : Fr [] w3 w4 := Fr.trans (by (repeat (first | with_reducible exact Fr.refl _ _ | assumption | with_reducible refine Fr.drew ?_))) hF4))
  all_goals
    rename_i hh
    obtain ⟨y0, y1, y2, y3, y4, y5, y6, y7, y8, y9, y10, y11, yF⟩ := hh
    obtain ⟨w4, hw4⟩ : ∃ w4, w4 = worldFr yF := ⟨_, rfl⟩
    dsimp only [worldFr] at hw4
    rw [← hw4] at y0 y1 y2 y3 y4 y5 y6 y7 y8 y9 y10 y11 yF ⊢
    clear hw4
    have hFw4 := HH.out.2.2.2.1.trans yF
    have hG4 := hG.below (B := 8) (hFw4.below h8 (by simp)) (by omega)
    have h84 : 8 ≤ w4.heap.size := by have := hFw4.size; omega
    have HF4 := Lib.hid hFw4
    clear hFw4 yF
    have hPP := HB.out.2.2.2.2.1
    unfold printP at hPP
    by_cases hr : rightQ Lib.validD p = 0
    · rw [if_neg (by simpa using hr)] at hPP
      simp only [Prod.mk.injEq] at hPP
      obtain ⟨hp, hpe⟩ := hPP
      subst hpe
      have hbk := parse_back hr
      have hZ := HB.out.2.2.2.2.2
      rw [← hp] at hZ
      have hZd : Z.data.toList = textP p := by rw [← hZ]
      have hpa := parse_all Z hG4 h84
      have HPB := Lib.hid (And.intro hbk hZd)
      clear hp hr hbk hZ hZd
      go_wp2_with fail
      refine hpa.mono ?_
      rintro e w5 ⟨hF5, v5, he, hv5⟩
      rw [HPB.out.2, HPB.out.1] at he hv5
      dsimp only at he hv5
      subst he
      have HV5 := Lib.hid hv5
      obtain ⟨_, _, rfl, ⟨G2, t2, rfl, z1, z2⟩, ⟨G4, t4, rfl, z3, z4⟩⟩ := hv5
      clear z1 z2 z3 z4
      obtain ⟨WC, hWC⟩ : ∃ WC, w5.alloc (.cells #[.slice G2 p.mat.length t2, .int .i64 p.level, .slice G4 p.tests.length t4, .int .i64 p.limit] 24) = WC := ⟨_, rfl⟩
      have hFC : Fr [] w5 WC := by rw [← hWC]; exact (Fr.refl _ _).alloc _
      have hC1 : WC.heap[w5.heap.size]? = some (.cells #[.slice G2 p.mat.length t2, .int .i64 p.level, .slice G4 p.tests.length t4, .int .i64 p.limit] 24 (0, 0)) := by rw [← hWC]; exact heap_alloc w5 _
      have hFwC := (HF4.out.trans hF5).trans hFC
      have u0 := cell_frS (hF5.trans hFC) y0 (by simp)
      have u1 := cell_frS (hF5.trans hFC) y1 (by simp)
      have u2 := cell_frS (hF5.trans hFC) y2 (by simp)
      have u3 := cell_frS (hF5.trans hFC) y3 (by simp)
      obtain ⟨x0, x1, x2, x3⟩ := cells4 hC1 (Fr.refl [] WC)
      have hs := sameR_any p p _ _ WC (HV5.out.fr hFC) (HV.out.fr hFwC) hp1 hp2
      rw [sameQ_refl] at hs
      have hGC := hG.below (B := 8) (hFwC.below h8 (by simp)) (by omega)
      have h8C : 8 ≤ WC.heap.size := by have := hFwC.size; omega
      have HFC := Lib.hid hFwC
      clear hF5 hFC hC1 hFwC hpa y0 y1 y2 y3 y4 y5 y6 y7 y8 y9 y10 y11
      go_wp2_with fail
      (try rw [hWC])
      go_wp2_with fail
      (try rw [hWC])
      refine hs.mono ?_
      rintro e w6 ⟨rfl, hF6⟩
      have hk := known_any w6 (hGC.below (B := 8) (hF6.below h8C (by simp)) (by omega)) (by have := hF6.size; omega)
      have HF6 := Lib.hid (HFC.out.trans hF6)
      clear hF6 hs
      go_wp2_with fail
      refine hk.mono ?_
      rintro e w7 ⟨rfl, hF7⟩
      go_wp2_with fail
      go_ret
      exact ⟨rfl, HF6.out.trans hF7⟩
    · rw [if_pos (by simpa using hr)] at hPP
      simp only [Prod.mk.injEq] at hPP
      have hne : PE ≠ 0 := by rw [← hPP.2]; exact hr
      have q1 : (PE == 0) = false := by simpa using hne
      have q2 : (PE != 0) = true := by simpa using hne
      have hk := known_any w4 hG4 h84
      clear hr hPP hne
      go_wp2_with fail
      refine hk.mono ?_
      rintro e w7 ⟨rfl, hF7⟩
      go_wp2_with fail
      go_ret
      exact ⟨rfl, HF4.out.trans hF7⟩
end Go.Proofs.YtaniaknphjnlkaaGreatDoor
