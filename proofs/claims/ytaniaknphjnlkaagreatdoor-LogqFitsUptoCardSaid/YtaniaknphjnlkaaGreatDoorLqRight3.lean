/- Right. -/
import Derived.Test.YtaniaknphjnlkaaGreatDoorLqRight2
namespace Go.Proofs.YtaniaknphjnlkaaGreatDoor
open Go.RowKit Go.Bl Go.Lq

set_option maxRecDepth 100000 in
set_option maxHeartbeats 800000 in
theorem right_any (q : Qy) (v : Value) (w : World) (hG : GV w) (h8 : 8 ≤ w.heap.size) (hv : QyV w v q) :
    Calls Tryz.prog 12 #[v] w fun e w' => e = .returned (.int .i64 (rightQ Lib.validD q)) ∧ Fr [] w w' := by
  obtain ⟨c2, c4, rfl, hm2, hm4⟩ := hv
  obtain ⟨lvl, hlvl⟩ : ∃ x, q.level = x := ⟨_, rfl⟩
  obtain ⟨lim, hlim⟩ : ∃ x, q.limit = x := ⟨_, rfl⟩
  obtain ⟨e1, he1⟩ : ∃ x, rightM Lib.validD q.mat = x := ⟨_, rfl⟩
  obtain ⟨e2, he2⟩ : ∃ x, wrongTs Lib.validD q.tests = x := ⟨_, rfl⟩
  have hans : rightQ Lib.validD q = if e1 ≠ 0 then e1 else if lvl < 0 ∨ 24 < lvl ∨ lim < 0 ∨ 1000 < lim then 1 else if 8 < q.tests.length then 7 else if e2 ≠ 0 then e2 else if 1024 < (textP q).length then 4 else 0 := by
    unfold rightQ
    rw [he1, he2, hlvl, hlim]
  obtain ⟨WQ, hWQ⟩ : ∃ WQ, w.alloc (.cells #[c2, .int .i64 lvl, c4, .int .i64 lim] 24) = WQ := ⟨_, rfl⟩
  have hFQ : Fr [] w WQ := by rw [← hWQ]; exact (Fr.refl _ _).alloc _
  have hQB : WQ.heap[w.heap.size]? = some (.cells #[c2, .int .i64 lvl, c4, .int .i64 lim] 24 (0, 0)) := by rw [← hWQ]; exact heap_alloc w _
  have q0 := cell_of hQB 0
  simp only [List.getElem?_toArray, List.getElem?_cons_zero] at q0
  have hGQ := hG.below (B := 8) (hFQ.below h8 (by simp)) (by omega)
  have h8Q : 8 ≤ WQ.heap.size := by have := hFQ.size; omega
  have hRM := rightMatch_any q.mat c2 WQ hGQ h8Q (hm2.fr hFQ)
  rw [he1] at hRM
  obtain ⟨ans, hA⟩ : ∃ ans, rightQ Lib.validD q = ans := ⟨_, rfl⟩
  rw [hA, hlvl, hlim]
  rw [hA] at hans
  have HANS := Lib.hid hans
  clear hA
  have HS := Lib.hid (And.intro hQB (And.intro hm4 (And.intro hFQ (And.intro hm2 (And.intro hlvl (And.intro hlim (And.intro he1 he2)))))))
  clear hans hQB hm4 hFQ hm2 hlvl hlim he1 he2
  go_enter Tryz.func12, Tryz.ntmps12
  go_wp2_with fail
  (try rw [hWQ])
  go_wp2_with fail
  refine hRM.mono ?_
  rintro e w1 ⟨rfl, hF1⟩
  have hb1 := hF1.obj HS.out.1 (by simp)
  have d0 := cell_of hb1 0
  have d1 := cell_of hb1 1
  have d2 := cell_of hb1 2
  have d3 := cell_of hb1 3
  simp only [List.getElem?_toArray, List.getElem?_cons_zero, List.getElem?_cons_succ] at d0 d1 d2 d3
  have HF1 := Lib.hid (HS.out.2.2.1.trans hF1)
  have HFQ1 := Lib.hid hF1
  have HB1 := Lib.hid hb1
  clear hb1 hF1 hRM
  by_cases h1 : e1 = 0
  · subst h1
    by_cases hr : lvl < 0 ∨ 24 < lvl ∨ lim < 0 ∨ 1000 < lim
    · have HRR := Lib.hid hr
      by_cases a1 : lvl < 0
      · clear hr
        go_wp2
        go_ret
        exact ⟨(by rw [HANS.out, if_neg (by simp), if_pos HRR.out]; rfl), HF1.out⟩
      · by_cases a2 : lvl > 24
        · clear hr
          go_wp2
          go_ret
          exact ⟨(by rw [HANS.out, if_neg (by simp), if_pos HRR.out]; rfl), HF1.out⟩
        · by_cases a3 : lim < 0
          · clear hr
            go_wp2
            go_ret
            exact ⟨(by rw [HANS.out, if_neg (by simp), if_pos HRR.out]; rfl), HF1.out⟩
          · have a4 : lim > 1000 := by omega
            clear hr
            go_wp2
            go_ret
            exact ⟨(by rw [HANS.out, if_neg (by simp), if_pos HRR.out]; rfl), HF1.out⟩
    · have HRR := Lib.hid hr
      have a1 : ¬ lvl < 0 := by omega
      have a2 : ¬ lvl > 24 := by omega
      have a3 : ¬ lim < 0 := by omega
      have a4 : ¬ lim > 1000 := by omega
      obtain ⟨A4, cp4, rfl, hl4, hx4⟩ := HS.out.2.1
      by_cases h9 : 8 < q.tests.length
      · have H9 := Lib.hid h9
        have b1 : (q.tests.length : Int) > 8 := by omega
        clear hr h9
        go_wp2
        go_ret
        exact ⟨(by rw [HANS.out, if_neg (by simp), if_neg HRR.out, if_pos H9.out]; rfl), HF1.out⟩
      · have H9 := Lib.hid h9
        have b1 : ¬ (q.tests.length : Int) > 8 := by omega
        have HX4 := Lib.hid hx4
        have HR := Lib.hid hr
        have h8n : q.tests.length ≤ 8 := by omega
        clear hr hx4 h9
        have HAN2 : Hid (ans = if e2 ≠ 0 then e2 else if 1024 < (textP q).length then 4 else 0) := by
          show _ = _
          rw [HANS.out, if_neg (by simp), if_neg HRR.out, if_neg H9.out]
        go_wp2_with fail
        go_loopw [40] (fun iv wr => WTRel w1 q.tests iv wr) (fun iv _ => q.tests.length - (intOf iv).toNat)
        case atStart => exact ⟨0, rfl, by omega, Fr.refl _ _, rfl⟩
        case round =>
          obtain ⟨k, rfl, hk, hF, hw⟩ := hrel
          by_cases hk2 : k < q.tests.length
          · obtain ⟨ad, rfl, m0, m1, m2⟩ := HX4.out k hk2
            have hFw := HF1.out.trans hF
            have c0 := cell_frS hFw m0 (by simp)
            have c1 := cell_frS hFw m1 (by simp)
            have c2 := cell_frS hFw m2 (by simp)
            have hsp := World.cell?_spot c0
            clear m0 m1 m2
            obtain ⟨m, hm⟩ : ∃ m, q.tests[k] = m := ⟨_, rfl⟩
            rw [List.drop_eq_getElem_cons hk2] at hw
            rw [hm] at c0 c1 c2 hw
            have hkl : (k : Int) < (q.tests.length : Int) := by omega
            have hk1 : k + 1 ≤ 100000 := by omega
            have hF3 : Fr [] wr (wr.alloc (.cells #[.int .i64 m.op, .string ⟨m.key.toArray⟩, .string ⟨m.val.toArray⟩] 56)) := (Fr.refl _ _).alloc _
            have hG3 := hG.below (B := 8) ((hFw.trans hF3).below h8 (by simp)) (by omega)
            have hwt := wrongT_any m _ hG3 (by have := (hFw.trans hF3).size; omega)
            obtain ⟨et, het⟩ : ∃ et, wrongT Lib.validD m = et := ⟨_, rfl⟩
            rw [het] at hwt
            have hws : wrongTs Lib.validD (m :: q.tests.drop (k + 1)) = if et ≠ 0 then et else wrongTs Lib.validD (q.tests.drop (k + 1)) := by
              rw [wrongTs, het]
            rw [hws] at hw
            have HW := Lib.hid (And.intro hw (And.intro hF (And.intro hF3 hFw)))
            clear hw hF hF3 hFw het hws hm hWQ
            go_wp2_with fail
            refine hwt.mono ?_
            rintro e w3 ⟨rfl, hF4⟩
            have hF5 := (HW.out.2.1.trans HW.out.2.2.1).trans hF4
            have HF5 := Lib.hid hF5
            clear hF4 hF5 hwt
            by_cases h0 : et = 0
            · subst h0
              have hwk : True → wrap64 ((k : Int) + 1) = (k : Int) + 1 := fun _ => wrap_sum (x := k) (c := 1) hk1
              go_wp2_with fail
              refine ⟨⟨k + 1, rfl, hk2, HF5.out, ?_⟩, by simp [intOf]; omega⟩
              rw [HW.out.1, if_neg (by simp)]
            · have q1 : (et == 0) = false := by simpa using h0
              have H0 := Lib.hid h0
              clear h0
              go_wp2_with fail
              go_ret
              refine ⟨?_, HF1.out.trans HF5.out⟩
              have := HW.out.1
              rw [if_pos H0.out, HS.out.2.2.2.2.2.2.2] at this
              rw [HAN2.out, this, if_pos H0.out]
              rfl
          · obtain rfl : k = q.tests.length := by omega
            have g1 : ¬ (q.tests.length : Int) < (q.tests.length : Int) := by omega
            rw [List.drop_of_length_le (Nat.le_refl _), HS.out.2.2.2.2.2.2.2] at hw
            have hw0 : e2 = 0 := hw
            subst hw0
            have hFw := HF1.out.trans hF
            have hokT := wrongTs_ok HS.out.2.2.2.2.2.2.2
            have hok : TextOK q := ⟨rightM_short HS.out.2.2.2.2.2.2.1, ⟨by omega, hokT.1⟩, hokT.2, by rw [HS.out.2.2.2.2.1]; omega, by rw [HS.out.2.2.2.2.2.1]; omega⟩
            have hbw := hF.obj HB1.out (by simp)
            have k0 := cell_of hbw 0
            have k1 := cell_of hbw 1
            have k2 := cell_of hbw 2
            have k3 := cell_of hbw 3
            simp only [List.getElem?_toArray, List.getElem?_cons_zero, List.getElem?_cons_succ] at k0 k1 k2 k3
            have hGw := hG.below (B := 8) (hFw.below h8 (by simp)) (by omega)
            have htx := text_any q hok (.agg #[c2, .int .i64 lvl, .slice A4 q.tests.length cp4, .int .i64 lim]) _ hGw (by have := hFw.size; omega) ⟨c2, _, by rw [HS.out.2.2.2.2.1, HS.out.2.2.2.2.2.1], HS.out.2.2.2.1.fr hFw, HS.out.2.1.fr hFw⟩
            obtain ⟨Z, hZ⟩ : ∃ Z : ByteArray, ⟨(textP q).toArray⟩ = Z := ⟨_, rfl⟩
            rw [hZ] at htx
            have hZs : Z.size = (textP q).length := by rw [← hZ, bs_size]
            have HF := Lib.hid (And.intro hFw hZs)
            clear hw hF hFw hbw hok hokT hZ hZs hWQ
            by_cases hbig : 1024 < Z.size
            · have b2 : (Z.size : Int) > 1024 := by omega
              go_wp2_with fail
              refine htx.mono ?_
              rintro e w3 ⟨rfl, hF3⟩
              go_wp2_with fail
              go_ret
              refine ⟨?_, HF.out.1.trans hF3⟩
              rw [HAN2.out, if_neg (by simp), if_pos (by rw [← HF.out.2]; exact hbig)]
              rfl
            · have b2 : ¬ (Z.size : Int) > 1024 := by omega
              go_wp2_with fail
              refine htx.mono ?_
              rintro e w3 ⟨rfl, hF3⟩
              go_wp2_with fail
              go_ret
              refine ⟨?_, HF.out.1.trans hF3⟩
              rw [HAN2.out, if_neg (by simp), if_neg (by rw [← HF.out.2]; exact hbig)]
              rfl
  · have q1 : (e1 == 0) = false := by simpa using h1
    have H1 := Lib.hid h1
    clear h1
    go_wp2
    go_ret
    exact ⟨(by rw [HANS.out, if_pos H1.out]; rfl), HF1.out⟩
end Go.Proofs.YtaniaknphjnlkaaGreatDoor
