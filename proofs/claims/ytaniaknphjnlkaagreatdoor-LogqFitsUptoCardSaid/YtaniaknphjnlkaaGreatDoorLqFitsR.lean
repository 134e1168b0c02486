/- The reference's Fits. -/
import Derived.Test.YtaniaknphjnlkaaGreatDoorLqFitsQ
namespace Go.Proofs.YtaniaknphjnlkaaGreatDoor
open Go.RowKit Go.Bl Go.Lq

set_option maxRecDepth 100000 in
set_option maxHeartbeats 1600000 in
theorem fitsQR_any (q : Qy) (r : Rc) (v v2 : Value) (w : World) (hv : QyV w v q) (hr : RecV w v2 r) (hls : AtsShort r.attrs) (hms : MtsShort q.mat) (hts : MtsShort q.tests) (htx : r.text.size ≤ 2000000) :
    Calls Tryz.prog 17 #[v, v2] w fun e w' => e = .returned (.bool (fitsQ q r.kind r.level r.attrs r.text.data.toList)) ∧ Fr [] w w' := by
  obtain ⟨q2, q4, rfl, hm2, hm4⟩ := hv
  obtain ⟨AA, ca, rfl, hat, _⟩ := hr
  obtain ⟨L, hL⟩ : ∃ L, rcList (.slice AA r.attrs.length ca) r = L := ⟨_, rfl⟩
  obtain ⟨WA, hWA⟩ : ∃ WA, (w.alloc (.cells #[q2, .int .i64 q.level, q4, .int .i64 q.limit] 24)).alloc (.cells L.toArray 39) = WA := ⟨_, rfl⟩
  have hFA : Fr [] w WA := by rw [← hWA]; exact ((Fr.refl _ _).alloc _).alloc _
  have hB1 : WA.heap[w.heap.size]? = some (.cells #[q2, .int .i64 q.level, q4, .int .i64 q.limit] 24 (0, 0)) := by rw [← hWA]; exact Go.Bl.heap_alloc_old (heap_alloc w _) _
  have hB2 : WA.heap[w.heap.size + 1]? = some (.cells (rcList (.slice AA r.attrs.length ca) r).toArray 39 (0, 0)) := by
    rw [← hWA, hL]
    have := heap_alloc (w.alloc (.cells #[q2, .int .i64 q.level, q4, .int .i64 q.limit] 24)) (.cells L.toArray 39)
    rw [size_alloc'] at this
    exact this
  obtain ⟨r0, r2, r6, r7⟩ := rc_cells hB2
  have b0 := cell_of hB1 0
  have b1 := cell_of hB1 1
  have b2 := cell_of hB1 2
  simp only [List.getElem?_toArray, List.getElem?_cons_zero, List.getElem?_cons_succ] at b0 b1 b2
  obtain ⟨kd, hkd⟩ : ∃ x, r.kind = x := ⟨_, rfl⟩
  obtain ⟨lv, hlv⟩ : ∃ x, r.level = x := ⟨_, rfl⟩
  obtain ⟨ql, hql⟩ : ∃ x, q.level = x := ⟨_, rfl⟩
  obtain ⟨X, hX⟩ : ∃ x, r.text = x := ⟨_, rfl⟩
  rw [hkd] at r0
  rw [hlv] at r6
  rw [hX] at r7
  rw [hql] at b1
  obtain ⟨A2, cp2, rfl, hl2, hx2⟩ := id hm2
  obtain ⟨A4, cp4, rfl, hl4, hx4⟩ := id hm4
  have hfa := fitsR_any r.attrs q.mat _ _ WA (hat.fr hFA) (hm2.fr hFA) hls hms
  have HA := Lib.hid (And.intro hFA (And.intro hB1 (And.intro hB2 (And.intro hat hm4))))
  obtain ⟨ans, hans⟩ : ∃ ans, fitsQ q r.kind r.level r.attrs r.text.data.toList = ans := ⟨_, rfl⟩
  rw [hans]
  unfold fitsQ at hans
  rw [hkd, hlv, hql, hX] at hans
  obtain ⟨bf, hbf⟩ : ∃ b, fitsM r.attrs q.mat = b := ⟨_, rfl⟩
  rw [hbf] at hfa hans
  have HANS := Lib.hid hans
  have HX4 := Lib.hid hx4
  have htX : X.size ≤ 2000000 := by rw [← hX]; exact htx
  have hlen := hts.1
  rw [hql] at hWA ⊢
  rw [hL]
  clear hFA hB1 hB2 hat hm2 hm4 hans hbf hx2 hx4 htx
  have HKX := Lib.hid (And.intro hL (And.intro hkd (And.intro hlv (And.intro hql hX))))
  clear hL hkd hlv hql hX
  go_enter Tryz.func17, Tryz.ntmps17
  go_upto_region 1 with fail
  (try rw [hWA])
  clear hWA
  by_cases h1 : kd = 2
  · subst h1
    rw [decide_eq_true rfl, Bool.true_and] at HANS
    go_wp2_with fail
    refine hfa.mono ?_
    rintro e w1 ⟨rfl, hF1⟩
    have hc := hF1.obj HA.out.2.1 (by simp)
    have d1 := cell_of hc 1
    have d2 := cell_of hc 2
    simp only [List.getElem?_toArray, List.getElem?_cons_zero, List.getElem?_cons_succ] at d1 d2
    rw [HKX.out.2.2.2.1] at d1
    obtain ⟨s0, s2, s6, s7⟩ := rc_cells (hF1.obj HA.out.2.2.1 (by simp))
    rw [HKX.out.2.2.1] at s6
    rw [HKX.out.2.2.2.2] at s7
    have HF1 := Lib.hid (And.intro hF1 hc)
    clear hF1 hc hfa r0 r2 r6 r7 b0 b1 b2
    cases bf with
    | false =>
      go_wp2_with fail
      go_ret
      exact ⟨by rw [← HANS.out]; simp, HA.out.1.trans HF1.out.1⟩
    | true =>
      rw [Bool.true_and] at HANS
      by_cases h2 : lv < ql
      · go_wp2_with fail
        go_ret
        refine ⟨?_, HA.out.1.trans HF1.out.1⟩
        rw [← HANS.out, decide_eq_false (by omega)]
        rfl
      · rw [decide_eq_true (by omega), Bool.true_and] at HANS
        go_wp2_with fail
        go_loopw [5] (fun iv wr => FQRel w1 r.attrs X.data.toList q.tests iv wr) (fun iv _ => q.tests.length - (intOf iv).toNat)
        case atStart => exact ⟨0, rfl, by omega, Fr.refl _ _, rfl⟩
        case round =>
          obtain ⟨k, rfl, hk, hF, hw⟩ := hrel
          by_cases hk2 : k < q.tests.length
          · obtain ⟨ad, rfl, m0, m1, m2⟩ := HX4.out k hk2
            have hFw := (HA.out.1.trans HF1.out.1).trans hF
            have c0 := cell_frS hFw m0 (by simp)
            have c1 := cell_frS hFw m1 (by simp)
            have c2 := cell_frS hFw m2 (by simp)
            have hsp := World.cell?_spot c0
            clear m0 m1 m2
            obtain ⟨m, hm⟩ : ∃ m, q.tests[k] = m := ⟨_, rfl⟩
            rw [testsP_drop hk2] at hw
            rw [hm] at c0 c1 c2 hw
            have hmm := hts.2 m (by rw [← hm]; exact List.getElem_mem _)
            have hkl : (k : Int) < (q.tests.length : Int) := by omega
            have hk1 : k + 1 ≤ 4000000 := by omega
            obtain ⟨op, hop⟩ : ∃ op, m.op = op := ⟨_, rfl⟩
            obtain ⟨K, hK⟩ : ∃ K : ByteArray, ⟨m.key.toArray⟩ = K := ⟨_, rfl⟩
            obtain ⟨V, hV⟩ : ∃ V : ByteArray, ⟨m.val.toArray⟩ = V := ⟨_, rfl⟩
            have hKe := empty_iff K
            rw [show K.data.toList = m.key by rw [← hK]] at hKe
            rw [hop] at c0
            rw [hK] at c1
            rw [hV] at c2
            obtain ⟨WE, hWE⟩ : ∃ WE, wr.alloc (.cells #[.int .i64 op, .string K, .string V] 56) = WE := ⟨_, rfl⟩
            have hFE : Fr [] wr WE := by rw [← hWE]; exact (Fr.refl _ _).alloc _
            have hEB : WE.heap[wr.heap.size]? = some (.cells #[.int .i64 op, .string K, .string V] 56 (0, 0)) := by rw [← hWE]; exact heap_alloc wr _
            have x0 := cell_of hEB 0
            have x1 := cell_of hEB 1
            have x2 := cell_of hEB 2
            simp only [List.getElem?_toArray, List.getElem?_cons_zero, List.getElem?_cons_succ] at x0 x1 x2
            have hFAE := (HF1.out.1.trans hF).trans hFE
            have hqr := hF.obj HF1.out.2 (by simp)
            have z2 := cell_of hqr 2
            simp only [List.getElem?_toArray, List.getElem?_cons_zero, List.getElem?_cons_succ] at z2
            obtain ⟨_, y2, _, y7⟩ := rc_cells (hFAE.obj HA.out.2.2.1 (by simp))
            rw [HKX.out.2.2.2.2] at y7
            obtain ⟨bt, hbt⟩ : ∃ b, testP r.attrs X.data.toList m = b := ⟨_, rfl⟩
            rw [hbt] at hw
            have hg := getR_any r.attrs _ K WE hls.1 (HA.out.2.2.2.1.fr (HA.out.1.trans hFAE))
            rw [show K.data.toList = m.key by rw [← hK]] at hg
            have hgs := getP_short hls.2 m.key
            obtain ⟨⟨gv, gb⟩, hgp⟩ : ∃ gg, getP r.attrs m.key = gg := ⟨_, rfl⟩
            rw [hgp] at hg hgs
            obtain ⟨Y, hY⟩ : ∃ Y : ByteArray, ⟨gv.toArray⟩ = Y := ⟨_, rfl⟩
            have sY : Y.size ≤ 2000000 := by rw [← hY, bs_size]; exact hgs
            unfold getV at hg
            dsimp only at hg hgs
            rw [hY] at hg
            have hmv : m.val.length ≤ 2000000 := by omega
            have hh1 := fun w' => holds_any m X w' htX hmv
            have hh2 := fun w' => holds_any m Y w' sY hmv
            rw [show Y.data.toList = gv by rw [← hY]] at hh2
            rw [hop, hK, hV] at hh1 hh2
            have HG := Lib.hid (And.intro hgp (And.intro hh1 hh2))
            have HW := Lib.hid (And.intro hw (And.intro hF (And.intro hFE (And.intro hbt (And.intro hop (And.intro hK (And.intro hV (And.intro hEB hFAE))))))))
            clear hw hF hFE hFw hm hbt hop hK hV hEB hFAE hqr hgp hgs hh1 hh2 hY
            go_wp2_with fail
            (try rw [hWE])
            go_wp2_with fail
            (try rw [hWE])
            refine hg.mono ?_
            rintro e w2 ⟨rfl, hF2⟩
            have hb := hF2.obj HW.out.2.2.2.2.2.2.2.1 (by simp)
            have u0 := cell_of hb 0
            have u1 := cell_of hb 1
            have u2 := cell_of hb 2
            simp only [List.getElem?_toArray, List.getElem?_cons_zero, List.getElem?_cons_succ] at u0 u1 u2
            have t7 := cell_frS hF2 y7 (by simp)
            have hF3 := (HW.out.2.1.trans HW.out.2.2.1).trans hF2
            have HF3 := Lib.hid hF3
            clear hF2 hF3 hb hg x0 x1 x2 y2 y7 c0 c1 c2 z2 hWE
            by_cases hky : m.key = []
            · rw [decide_eq_true hky] at hKe
              have HKY := Lib.hid hky
              clear hky
              by_cases ho : op = 3 ∨ op = 4
              · have hbt2 : holdsP m X.data.toList = bt := by
                  rw [← HW.out.2.2.2.1]
                  unfold testP
                  rw [if_pos HKY.out, HW.out.2.2.2.2.1, decide_eq_true ho, Bool.true_and]
                have hh := HG.out.2.1 w2
                rw [hbt2] at hh
                clear hbt2
                rcases ho with rfl | rfl
                all_goals
                  go_wp2_with fail
                  refine hh.mono ?_
                  rintro e w3 ⟨rfl, hF4⟩
                  cases bt with
                  | false =>
                    go_wp2_with fail
                    go_ret
                    refine ⟨?_, ((HA.out.1.trans HF1.out.1).trans HF3.out).trans hF4⟩
                    rw [← HANS.out, HW.out.1]
                    rfl
                  | true =>
                    have hwk : True → wrap64 ((k : Int) + 1) = (k : Int) + 1 := fun _ => wrap_big (c := k + 1) (by omega)
                    go_wp2_with fail
                    refine ⟨⟨k + 1, rfl, hk2, HF3.out.trans hF4, ?_⟩, by simp [intOf]; omega⟩
                    rw [HW.out.1]
                    rfl
              · have h3 : ¬ op = 3 := fun h => ho (.inl h)
                have h4 : ¬ op = 4 := fun h => ho (.inr h)
                have q3 : (op == 3) = false := by simpa using h3
                have q4 : (op == 4) = false := by simpa using h4
                have q5 : (op != 3) = true := by simpa using h3
                have q6 : (op != 4) = true := by simpa using h4
                have hbt2 : bt = false := by
                  rw [← HW.out.2.2.2.1, testP_no HKY.out (by rw [HW.out.2.2.2.2.1]; exact h3) (by rw [HW.out.2.2.2.2.1]; exact h4)]
                subst hbt2
                clear ho
                go_wp2_with fail
                go_ret
                refine ⟨?_, (HA.out.1.trans HF1.out.1).trans HF3.out⟩
                rw [← HANS.out, HW.out.1]
                rfl
            · rw [decide_eq_false hky] at hKe
              have hbt2 : holdsP m gv = bt := by
                rw [← HW.out.2.2.2.1]
                unfold testP
                rw [if_neg hky, HG.out.1]
              have hh := HG.out.2.2 w2
              rw [hbt2] at hh
              clear hbt2 hky
              go_wp2_with fail
              refine hh.mono ?_
              rintro e w3 ⟨rfl, hF4⟩
              cases bt with
              | false =>
                go_wp2_with fail
                go_ret
                refine ⟨?_, ((HA.out.1.trans HF1.out.1).trans HF3.out).trans hF4⟩
                rw [← HANS.out, HW.out.1]
                rfl
              | true =>
                have hwk : True → wrap64 ((k : Int) + 1) = (k : Int) + 1 := fun _ => wrap_big (c := k + 1) (by omega)
                go_wp2_with fail
                refine ⟨⟨k + 1, rfl, hk2, HF3.out.trans hF4, ?_⟩, by simp [intOf]; omega⟩
                rw [HW.out.1]
                rfl
          · obtain rfl : k = q.tests.length := by omega
            have g1 : ¬ (q.tests.length : Int) < (q.tests.length : Int) := by omega
            have hqr := hF.obj HF1.out.2 (by simp)
            have z2 := cell_of hqr 2
            simp only [List.getElem?_toArray, List.getElem?_cons_zero, List.getElem?_cons_succ] at z2
            rw [List.drop_of_length_le (Nat.le_refl _), HANS.out] at hw
            have HW := Lib.hid (And.intro hw hF)
            clear hw hF hqr
            go_wp2_with fail
            go_ret
            exact ⟨by rw [HW.out.1]; rfl, (HA.out.1.trans HF1.out.1).trans HW.out.2⟩
  · have q1 : (kd == 2) = false := by simpa using h1
    have H1 := Lib.hid h1
    clear h1
    go_wp2_with fail
    go_ret
    exact ⟨by rw [← HANS.out, decide_eq_false H1.out]; rfl, HA.out.1⟩
end Go.Proofs.YtaniaknphjnlkaaGreatDoor
