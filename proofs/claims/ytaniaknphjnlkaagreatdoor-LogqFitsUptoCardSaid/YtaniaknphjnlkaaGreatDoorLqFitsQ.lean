/- logq.Fits. -/
import Derived.Test.YtaniaknphjnlkaaGreatDoorMf37
import Derived.Deep.CutBlock
namespace Go.Proofs.YtaniaknphjnlkaaGreatDoor
open Go.RowKit Go.Bl Go.Lq

theorem mts_one {w : World} {b : Nat} {op : Int} {K V : ByteArray} {m : Mt} (h : w.heap[b]? = some (.cells #[.int .i64 op, .string K, .string V] 56 (0, 0))) (h1 : m.op = op) (h2 : ByteArray.mk m.key.toArray = K) (h3 : ByteArray.mk m.val.toArray = V) : Mts w (.slice (some ⟨b, 0, none⟩) 1 1) [m] :=
  ⟨_, _, rfl, by simp, fun i hi => ⟨_, rfl, by
    obtain rfl : i = 0 := by simpa using hi
    refine ⟨?_, ?_, ?_⟩
    · rw [add_at', cell_of h, ← h1]; rfl
    · rw [add_at', cell_of h, ← h2]; rfl
    · rw [add_at', cell_of h, ← h3]; rfl⟩⟩
theorem rc_cells {w : World} {b : Nat} {a : Value} {r : Rc} {T : TypeId} (h : w.heap[b]? = some (.cells (rcList a r).toArray T (0, 0))) :
    w.cell? ⟨b, 0, none⟩ = some (.int .i64 r.kind) ∧ w.cell? ⟨b, 2, none⟩ = some a ∧ w.cell? ⟨b, 6, none⟩ = some (.int .i64 r.level) ∧ w.cell? ⟨b, 7, none⟩ = some (.string r.text) :=
  ⟨cell_of h 0, cell_of h 2, cell_of h 6, cell_of h 7⟩
def FQRel (w : World) (l : List At) (t : Bs) (ms : List Mt) (iv : Value) (wr : World) : Prop :=
  ∃ k, iv = .int .i64 ((k : Nat) : Int) ∧ k ≤ ms.length ∧ Fr [] w wr ∧ testsP l t ms = testsP l t (ms.drop k)
theorem testP_key {l : List At} {t : Bs} {m : Mt} (h : ¬ m.key = []) : testP l t m = fitsM l [m] := by rw [fitsM_one]; unfold testP; rw [if_neg h]
theorem testP_3 {l : List At} {t : Bs} {m : Mt} (h : m.key = []) (ho : m.op = 3) : testP l t m = Lib.contains t m.val := by unfold testP; rw [if_pos h, decide_eq_true (.inl ho), Bool.true_and, holdsP_3 ho]
theorem testP_4 {l : List At} {t : Bs} {m : Mt} (h : m.key = []) (ho : m.op = 4) : testP l t m = !Lib.contains t m.val := by unfold testP; rw [if_pos h, decide_eq_true (.inr ho), Bool.true_and, holdsP_4 ho]
theorem testP_no {l : List At} {t : Bs} {m : Mt} (h : m.key = []) (h3 : ¬ m.op = 3) (h4 : ¬ m.op = 4) : testP l t m = false := by unfold testP; rw [if_pos h, decide_eq_false (by omega), Bool.false_and]
set_option maxRecDepth 100000 in
set_option maxHeartbeats 1600000 in
theorem fitsQ_any (q : Qy) (r : Rc) (v v2 : Value) (w : World) (hX0 : GX w) (hv : QyV w v q) (hr : RecV w v2 r) (hls : AtsShort r.attrs) (hms : MtsShort q.mat) (hts : MtsShort q.tests) (htx : r.text.size ≤ 2000000) :
    Calls Tryz.prog 16 #[v, v2] w fun e w' => e = .returned (.bool (fitsQ q r.kind r.level r.attrs r.text.data.toList)) ∧ Fr [] w w' := by
  obtain ⟨q2, q4, rfl, hm2, hm4⟩ := hv
  obtain ⟨AA, ca, rfl, hat, _⟩ := hr
  obtain ⟨L, hL⟩ : ∃ L, rcList (.slice AA r.attrs.length ca) r = L := ⟨_, rfl⟩
  obtain ⟨WA, hWA⟩ : ∃ WA, (w.alloc (.cells #[q2, .int .i64 q.level, q4, .int .i64 q.limit] 24)).alloc (.cells L.toArray 39) = WA := ⟨_, rfl⟩
  have hFA : Fr [] w WA := by rw [← hWA]; exact ((Fr.refl _ _).alloc _).alloc _
  have hB1 : WA.heap[w.heap.size]? = some (.cells #[q2, .int .i64 q.level, q4, .int .i64 q.limit] 24 (0, 0)) := by rw [← hWA]; exact Go.Bl.heap_alloc_old (heap_alloc w _) _
  have hB2 : WA.heap[w.heap.size + 1]? = some (.cells (rcList (.slice AA r.attrs.length ca) r).toArray 39 (0, 0)) := by
    rw [← hWA, hL]
    have := heap_alloc (w.alloc (.cells #[q2, .int .i64 q.level, q4, .int .i64 q.limit] 24)) (.cells L.toArray 39)
    rw [size_alloc'] at this
    exact this
  obtain ⟨r0, r2, r6, r7⟩ := rc_cells hB2
  have b0 := cell_of hB1 0
  have b1 := cell_of hB1 1
  have b2 := cell_of hB1 2
  simp only [List.getElem?_toArray, List.getElem?_cons_zero, List.getElem?_cons_succ] at b0 b1 b2
  obtain ⟨kd, hkd⟩ : ∃ x, r.kind = x := ⟨_, rfl⟩
  obtain ⟨lv, hlv⟩ : ∃ x, r.level = x := ⟨_, rfl⟩
  obtain ⟨ql, hql⟩ : ∃ x, q.level = x := ⟨_, rfl⟩
  obtain ⟨X, hX⟩ : ∃ x, r.text = x := ⟨_, rfl⟩
  rw [hkd] at r0
  rw [hlv] at r6
  rw [hX] at r7
  rw [hql] at b1
  obtain ⟨A2, cp2, rfl, hl2, hx2⟩ := id hm2
  obtain ⟨A4, cp4, rfl, hl4, hx4⟩ := id hm4
  have hfa := fitsA_any r.attrs q.mat _ _ WA (hX0.fr hFA) (hat.fr hFA) (hm2.fr hFA) hls hms
  have HA := Lib.hid (And.intro hFA (And.intro hB1 (And.intro hB2 (And.intro hat (And.intro hm4 hX0)))))
  obtain ⟨ans, hans⟩ : ∃ ans, fitsQ q r.kind r.level r.attrs r.text.data.toList = ans := ⟨_, rfl⟩
  rw [hans]
  unfold fitsQ at hans
  rw [hkd, hlv, hql, hX] at hans
  obtain ⟨bf, hbf⟩ : ∃ b, fitsM r.attrs q.mat = b := ⟨_, rfl⟩
  rw [hbf] at hfa hans
  have HANS := Lib.hid hans
  have HX4 := Lib.hid hx4
  have htX : X.size ≤ 2000000 := by rw [← hX]; exact htx
  have hlen := hts.1
  rw [hql] at hWA ⊢
  rw [hL]
  clear hFA hB1 hB2 hat hm2 hm4 hX0 hans hbf hx2 hx4 htx
  have HKX := Lib.hid (And.intro hL (And.intro hkd (And.intro hlv (And.intro hql hX))))
  clear hL hkd hlv hql hX
  go_enter Tryz.func16, Tryz.ntmps16
  go_upto_region 1 with fail
  (try rw [hWA])
  clear hWA
  by_cases h1 : kd = 2
  · subst h1
    rw [decide_eq_true rfl, Bool.true_and] at HANS
    by_cases h2 : lv < ql
    · go_wp2_with fail
      go_ret
      refine ⟨?_, HA.out.1⟩
      rw [← HANS.out, decide_eq_false (by omega)]
      rfl
    · rw [decide_eq_true (by omega), Bool.true_and] at HANS
      go_wp2_with fail
      refine hfa.mono ?_
      rintro e w1 ⟨rfl, hF1⟩
      have hc := hF1.obj HA.out.2.1 (by simp)
      have d2 := cell_of hc 2
      simp only [List.getElem?_toArray, List.getElem?_cons_zero, List.getElem?_cons_succ] at d2
      have HF1 := Lib.hid hF1
      clear hF1 hc hfa r0 r2 r6 r7 b0 b1 b2
      cases bf with
      | false =>
        go_wp2_with fail
        go_ret
        exact ⟨by rw [← HANS.out]; rfl, HA.out.1.trans HF1.out⟩
      | true =>
        rw [Bool.true_and] at HANS
        go_wp2_with fail
        go_loopw [29] (fun iv wr => FQRel w1 r.attrs X.data.toList q.tests iv wr) (fun iv _ => q.tests.length - (intOf iv).toNat)
        case atStart => exact ⟨0, rfl, by omega, Fr.refl _ _, rfl⟩
        case round =>
          obtain ⟨k, rfl, hk, hF, hw⟩ := hrel
          by_cases hk2 : k < q.tests.length
          · obtain ⟨ad, rfl, m0, m1, m2⟩ := HX4.out k hk2
            have hFw := (HA.out.1.trans HF1.out).trans hF
            have c0 := cell_frS hFw m0 (by simp)
            have c1 := cell_frS hFw m1 (by simp)
            have c2 := cell_frS hFw m2 (by simp)
            have hsp := World.cell?_spot c0
            clear m0 m1 m2
            obtain ⟨m, hm⟩ : ∃ m, q.tests[k] = m := ⟨_, rfl⟩
            rw [testsP_drop hk2] at hw
            rw [hm] at c0 c1 c2 hw
            have hmm := hts.2 m (by rw [← hm]; exact List.getElem_mem _)
            have hkl : (k : Int) < (q.tests.length : Int) := by omega
            have hk1 : k + 1 ≤ 4000000 := by omega
            obtain ⟨op, hop⟩ : ∃ op, m.op = op := ⟨_, rfl⟩
            obtain ⟨K, hK⟩ : ∃ K : ByteArray, ⟨m.key.toArray⟩ = K := ⟨_, rfl⟩
            obtain ⟨V, hV⟩ : ∃ V : ByteArray, ⟨m.val.toArray⟩ = V := ⟨_, rfl⟩
            have hKe := empty_iff K
            rw [show K.data.toList = m.key by rw [← hK]] at hKe
            rw [hop] at c0
            rw [hK] at c1
            rw [hV] at c2
            obtain ⟨WE, hWE⟩ : ∃ WE, wr.alloc (.cells #[.int .i64 op, .string K, .string V] 56) = WE := ⟨_, rfl⟩
            have hFE : Fr [] wr WE := by rw [← hWE]; exact (Fr.refl _ _).alloc _
            have hEB : WE.heap[wr.heap.size]? = some (.cells #[.int .i64 op, .string K, .string V] 56 (0, 0)) := by rw [← hWE]; exact heap_alloc wr _
            have x0 := cell_of hEB 0
            have x1 := cell_of hEB 1
            have x2 := cell_of hEB 2
            simp only [List.getElem?_toArray, List.getElem?_cons_zero, List.getElem?_cons_succ] at x0 x1 x2
            have hFAE := (HF1.out.trans hF).trans hFE
            obtain ⟨_, y2, _, y7⟩ := rc_cells (hFAE.obj HA.out.2.2.1 (by simp))
            rw [HKX.out.2.2.2.2] at y7
            obtain ⟨bt, hbt⟩ : ∃ b, testP r.attrs X.data.toList m = b := ⟨_, rfl⟩
            rw [hbt] at hw
            have HW := Lib.hid (And.intro hw (And.intro hF (And.intro hFE (And.intro hbt (And.intro hop (And.intro hK (And.intro hV (And.intro hEB hFAE))))))))
            clear hw hF hFE hFw hm hbt hop hK hV hEB hFAE
            go_upto_block 2 with fail
            (try rw [hWE])
            clear hWE
            go_cut [7] (fun s7 wx => s7 = .bool bt ∧ Fr [] WE wx)
            case first =>
              by_cases hky : m.key = []
              · rw [decide_eq_true hky] at hKe
                have HKY := Lib.hid hky
                clear hky
                have hcn := contains_any X V WE htX ((HA.out.2.2.2.2.2.fr HA.out.1).fr HW.out.2.2.2.2.2.2.2.2)
                rw [show V.data.toList = m.val by rw [← HW.out.2.2.2.2.2.2.1]] at hcn
                obtain ⟨bc, hbc⟩ : ∃ b, Lib.contains X.data.toList m.val = b := ⟨_, rfl⟩
                rw [hbc] at hcn
                have HBC := Lib.hid hbc
                clear hbc
                by_cases h3 : op = 3
                · subst h3
                  go_wp2_with fail
                  refine hcn.mono ?_
                  rintro e w2 ⟨rfl, rfl⟩
                  go_wp2_with fail
                  go_meet
                  exact ⟨by rw [← HW.out.2.2.2.1, testP_3 HKY.out HW.out.2.2.2.2.1, HBC.out], Fr.refl _ _⟩
                · by_cases h4 : op = 4
                  · subst h4
                    go_wp2_with fail
                    refine hcn.mono ?_
                    rintro e w2 ⟨rfl, rfl⟩
                    go_wp2_with fail
                    go_meet
                    exact ⟨by rw [← HW.out.2.2.2.1, testP_4 HKY.out HW.out.2.2.2.2.1, HBC.out], Fr.refl _ _⟩
                  · have q3 : (op == 3) = false := by simpa using h3
                    have q4 : (op == 4) = false := by simpa using h4
                    have HNO := Lib.hid (And.intro h3 h4)
                    clear h3 h4 hcn
                    go_wp2_with fail
                    go_meet
                    exact ⟨by rw [← HW.out.2.2.2.1, testP_no HKY.out (by rw [HW.out.2.2.2.2.1]; exact HNO.out.1) (by rw [HW.out.2.2.2.2.1]; exact HNO.out.2)], Fr.refl _ _⟩
              · rw [decide_eq_false hky] at hKe
                have HKY := Lib.hid hky
                clear hky
                have hFE2 : Fr [] WE (WE.alloc (.cells #[.int .i64 op, .string K, .string V] 56)) := (Fr.refl _ _).alloc _
                have hFw2 := (HA.out.1.trans HW.out.2.2.2.2.2.2.2.2).trans hFE2
                have hf := fitsA_any r.attrs [m] _ (.slice (some ⟨WE.heap.size, 0, none⟩) 1 1) (WE.alloc (.cells #[.int .i64 op, .string K, .string V] 56)) (HA.out.2.2.2.2.2.fr hFw2) (HA.out.2.2.2.1.fr hFw2) (mts_one (heap_alloc WE _) HW.out.2.2.2.2.1 HW.out.2.2.2.2.2.1 HW.out.2.2.2.2.2.2.1) hls ⟨by simp, fun x hx => by obtain rfl := List.mem_singleton.1 hx; exact hmm⟩
                rw [← testP_key HKY.out, HW.out.2.2.2.1] at hf
                have HFE2 := Lib.hid hFE2
                clear hFE2 hFw2
                go_wp2_with fail
                refine hf.mono ?_
                rintro e w2 ⟨rfl, hF2⟩
                go_wp2_with fail
                go_meet
                exact ⟨rfl, HFE2.out.trans hF2⟩
            case rest =>
              obtain ⟨rfl, hFc⟩ := hcut
              have hF3 := (HW.out.2.1.trans HW.out.2.2.1).trans hFc
              have HF3 := Lib.hid hF3
              clear hFc hF3 x0 x1 x2 y2 y7 c0 c1 c2
              cases bt with
              | false =>
                go_wp2_with fail
                go_ret
                refine ⟨?_, (HA.out.1.trans HF1.out).trans HF3.out⟩
                rw [← HANS.out, HW.out.1]
                rfl
              | true =>
                have hwk : True → wrap64 ((k : Int) + 1) = (k : Int) + 1 := fun _ => wrap_big (c := k + 1) (by omega)
                go_wp2_with fail
                refine ⟨⟨k + 1, rfl, hk2, HF3.out, ?_⟩, by simp [intOf]; omega⟩
                rw [HW.out.1]
                rfl
          · obtain rfl : k = q.tests.length := by omega
            have g1 : ¬ (q.tests.length : Int) < (q.tests.length : Int) := by omega
            rw [List.drop_of_length_le (Nat.le_refl _), HANS.out] at hw
            have HW := Lib.hid (And.intro hw hF)
            clear hw hF
            go_wp2_with fail
            go_ret
            exact ⟨by rw [HW.out.1]; rfl, (HA.out.1.trans HF1.out).trans HW.out.2⟩
  · have q1 : (kd == 2) = false := by simpa using h1
    have H1 := Lib.hid h1
    clear h1
    go_wp2_with fail
    go_ret
    exact ⟨by rw [← HANS.out, decide_eq_false H1.out]; rfl, HA.out.1⟩
end Go.Proofs.YtaniaknphjnlkaaGreatDoor
