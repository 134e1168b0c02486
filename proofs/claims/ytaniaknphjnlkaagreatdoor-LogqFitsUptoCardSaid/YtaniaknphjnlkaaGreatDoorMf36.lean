/- attr.Fits. -/
import Derived.Test.YtaniaknphjnlkaaGreatDoorLqFitsM
import Derived.Deep.CutBlock
import Derived.Test.YtaniaknphjnlkaaGreatDoorLqRight3
namespace Go.Proofs.YtaniaknphjnlkaaGreatDoor
open Go.RowKit Go.Bl Go.Lq

set_option maxRecDepth 100000 in
set_option maxHeartbeats 1600000 in
theorem fitsA_any (l : List At) (ms : List Mt) (v v2 : Value) (w : World) (hX0 : GX w) (hA : Ats w v l) (hM : Mts w v2 ms) (hls : AtsShort l) (hms : MtsShort ms) :
    Calls Tryz.prog 35 #[v, v2] w fun e w' => e = .returned (.bool (fitsM l ms)) ∧ Fr [] w w' := by
  have HA := Lib.hid hA
  obtain ⟨B, bp, rfl, z1, z2⟩ := hA
  clear z1 z2
  obtain ⟨A, cp, rfl, hl, hx⟩ := hM
  have HX := Lib.hid hx
  have HX0 := Lib.hid hX0
  have hlen := hms.1
  obtain ⟨ans, hans⟩ : ∃ ans, fitsM l ms = ans := ⟨_, rfl⟩
  rw [hans]
  have HANS := Lib.hid hans
  clear hx hans hX0
  go_enter Tryz.func35, Tryz.ntmps35
  go_wp2_with fail
  go_loopw [12] (fun iv wr => FMRel w l ms iv wr) (fun iv _ => ms.length - (intOf iv).toNat)
  case atStart => exact ⟨0, rfl, by omega, Fr.refl _ _, rfl⟩
  case round =>
    obtain ⟨k, rfl, hk, hF, hw⟩ := hrel
    by_cases hk2 : k < ms.length
    · obtain ⟨ad, rfl, m0, m1, m2⟩ := HX.out k hk2
      have c0 := cell_frS hF m0 (by simp)
      have c1 := cell_frS hF m1 (by simp)
      have c2 := cell_frS hF m2 (by simp)
      have hsp := World.cell?_spot c0
      clear m0 m1 m2
      obtain ⟨m, hm⟩ : ∃ m, ms[k] = m := ⟨_, rfl⟩
      rw [fitsM_drop hk2] at hw
      rw [hm] at c0 c1 c2 hw
      have hmv : m.val.length ≤ 2000000 := by have := hms.2 m (by rw [← hm]; exact List.getElem_mem _); omega
      have hkl : (k : Int) < (ms.length : Int) := by omega
      have hk1 : k + 1 ≤ 4000000 := by omega
      obtain ⟨op, hop⟩ : ∃ op, m.op = op := ⟨_, rfl⟩
      obtain ⟨K, hK⟩ : ∃ K : ByteArray, ⟨m.key.toArray⟩ = K := ⟨_, rfl⟩
      obtain ⟨V, hV⟩ : ∃ V : ByteArray, ⟨m.val.toArray⟩ = V := ⟨_, rfl⟩
      have sV : V.size ≤ 2000000 := by rw [← hV, bs_size]; exact hmv
      have hVd : V.data.toList = m.val := by rw [← hV]
      rw [hop] at c0
      rw [hK] at c1
      rw [hV] at c2
      obtain ⟨WE, hWE⟩ : ∃ WE, wr.alloc (.cells #[.int .i64 op, .string K, .string V] 56) = WE := ⟨_, rfl⟩
      have hFE : Fr [] wr WE := by rw [← hWE]; exact (Fr.refl _ _).alloc _
      have hEB : WE.heap[wr.heap.size]? = some (.cells #[.int .i64 op, .string K, .string V] 56 (0, 0)) := by rw [← hWE]; exact heap_alloc wr _
      have x1 := cell_of hEB 1
      simp only [List.getElem?_toArray, List.getElem?_cons_zero, List.getElem?_cons_succ] at x1
      have hg := get_any l _ K WE hls.1 ((HA.out.fr hF).fr hFE)
      rw [show K.data.toList = m.key by rw [← hK]] at hg
      have hgs := getP_short hls.2 m.key
      obtain ⟨⟨gv, gb⟩, hgp⟩ : ∃ r, getP l m.key = r := ⟨_, rfl⟩
      rw [hgp] at hg hgs hw
      obtain ⟨X, hX⟩ : ∃ X : ByteArray, ⟨gv.toArray⟩ = X := ⟨_, rfl⟩
      have sX : X.size ≤ 2000000 := by rw [← hX, bs_size]; exact hgs
      have hXd : X.data.toList = gv := by rw [← hX]
      unfold getV at hg
      dsimp only at hg hw hgs
      rw [hX] at hg
      obtain ⟨bh, hbh⟩ : ∃ b, holdsP m gv = b := ⟨_, rfl⟩
      rw [hbh] at hw
      have hbe := beq_bytes X V
      rw [hVd, hXd] at hbe
      have hcn := fun w' (hX : GX w') => contains_any X V w' sX hX
      rw [hVd, hXd] at hcn
      obtain ⟨bc, hbc⟩ : ∃ b, Lib.contains gv m.val = b := ⟨_, rfl⟩
      obtain ⟨be, hbq⟩ : ∃ b, decide (gv = m.val) = b := ⟨_, rfl⟩
      rw [hbc] at hcn
      rw [hbq] at hbe
      have HCN := Lib.hid hcn
      have HW := Lib.hid (And.intro hw (And.intro hF (And.intro hFE (And.intro hEB (And.intro hbh (And.intro hbc (And.intro hbq hop)))))))
      clear hw hF hm hK hV hX hbh hgp hgs hcn hbc hbq hVd hXd hFE hEB hop
      go_wp2_with fail
      (try rw [hWE])
      go_wp2_with fail
      (try rw [hWE])
      refine hg.mono ?_
      rintro e w1 ⟨rfl, hF1⟩
      have hb := hF1.obj HW.out.2.2.2.1 (by simp)
      have d0 := cell_of hb 0
      have d1 := cell_of hb 1
      have d2 := cell_of hb 2
      simp only [List.getElem?_toArray, List.getElem?_cons_zero, List.getElem?_cons_succ] at d0 d1 d2
      have hF2 := (HW.out.2.1.trans HW.out.2.2.1).trans hF1
      have HF2 := Lib.hid hF2
      have hc1 := HCN.out w1 (HX0.out.fr hF2)
      clear hF1 hF2 hb hg c0 c1 c2 x1 hWE
      go_upto_block 2 with fail
      go_cut [9] (fun s9 wx => s9 = .bool bh ∧ wx = w1)
      case first =>
        by_cases h1 : op = 1
        · subst h1
          go_wp2_with fail
          go_meet
          exact ⟨by rw [← HW.out.2.2.2.2.1, holdsP_1 HW.out.2.2.2.2.2.2.2, HW.out.2.2.2.2.2.2.1], rfl⟩
        · by_cases h2 : op = 2
          · subst h2
            go_wp2_with fail
            go_meet
            exact ⟨by rw [← HW.out.2.2.2.2.1, holdsP_2 HW.out.2.2.2.2.2.2.2, HW.out.2.2.2.2.2.2.1], rfl⟩
          · by_cases h3 : op = 3
            · subst h3
              go_wp2_with fail
              refine hc1.mono ?_
              rintro e w2 ⟨rfl, rfl⟩
              go_wp2_with fail
              go_meet
              exact ⟨by rw [← HW.out.2.2.2.2.1, holdsP_3 HW.out.2.2.2.2.2.2.2, HW.out.2.2.2.2.2.1], rfl⟩
            · by_cases h4 : op = 4
              · subst h4
                go_wp2_with fail
                refine hc1.mono ?_
                rintro e w2 ⟨rfl, rfl⟩
                go_wp2_with fail
                go_meet
                exact ⟨by rw [← HW.out.2.2.2.2.1, holdsP_4 HW.out.2.2.2.2.2.2.2, HW.out.2.2.2.2.2.1], rfl⟩
              · have q1 : (op == 1) = false := by simpa using h1
                have q2 : (op == 2) = false := by simpa using h2
                have q3 : (op == 3) = false := by simpa using h3
                have q4 : (op == 4) = false := by simpa using h4
                have HNO := Lib.hid (And.intro h1 (And.intro h2 (And.intro h3 h4)))
                clear h1 h2 h3 h4
                go_wp2_with fail
                go_meet
                have hop := HW.out.2.2.2.2.2.2.2
                exact ⟨by rw [← HW.out.2.2.2.2.1, holdsP_0 (by rw [hop]; exact HNO.out.1) (by rw [hop]; exact HNO.out.2.1) (by rw [hop]; exact HNO.out.2.2.1) (by rw [hop]; exact HNO.out.2.2.2)], rfl⟩
      case rest =>
        obtain ⟨rfl, rfl⟩ := hcut
        cases bh with
        | false =>
          go_wp2_with fail
          go_ret
          refine ⟨?_, HF2.out⟩
          rw [← HANS.out, HW.out.1]
          rfl
        | true =>
          have hwk : True → wrap64 ((k : Int) + 1) = (k : Int) + 1 := fun _ => wrap_big (c := k + 1) (by omega)
          go_wp2_with fail
          refine ⟨⟨k + 1, rfl, hk2, HF2.out, ?_⟩, by simp [intOf]; omega⟩
          rw [HW.out.1]
          rfl
    · obtain rfl : k = ms.length := by omega
      have g1 : ¬ (ms.length : Int) < (ms.length : Int) := by omega
      rw [List.drop_of_length_le (Nat.le_refl _), HANS.out] at hw
      have HW := Lib.hid (And.intro hw hF)
      clear hw hF
      go_wp2_with fail
      go_ret
      exact ⟨by rw [HW.out.1]; rfl, HW.out.2⟩
end Go.Proofs.YtaniaknphjnlkaaGreatDoor
namespace Go.Proofs.YtaniaknphjnlkaaGreatDoor
open Go.RowKit Go.Bl Go.Lq

theorem parse_all (s : ByteArray) {w : World} (hG : GV w) (h8 : 8 ≤ w.heap.size) : Calls Tryz.prog 6 #[.string s] w (ParsePost s w) :=
  parse_any (fun w v q hG h8 hv => right_any q v w hG h8 hv) s hG h8
/-- What Print says. -/
def printP (V : Bs → Bool) (q : Qy) : Bs × Int := if rightQ V q ≠ 0 then ([], rightQ V q) else (textP q, 0)
theorem right_textOK {V : Bs → Bool} {q : Qy} (h : rightQ V q = 0) : TextOK q := by
  unfold rightQ at h
  split at h
  · rename_i h1
    exact absurd h h1
  · rename_i h1
    have h1 : rightM V q.mat = 0 := by simpa using h1
    split at h
    · cases h
    · rename_i h2
      split at h
      · cases h
      · rename_i h3
        split at h
        · rename_i h4
          exact absurd h h4
        · rename_i h4
          have h4 : wrongTs V q.tests = 0 := by simpa using h4
          have hk := wrongTs_ok h4
          exact ⟨rightM_short h1, ⟨by omega, hk.1⟩, hk.2, by omega, by omega⟩
set_option maxRecDepth 100000 in
set_option maxHeartbeats 800000 in
theorem print_any (q : Qy) (v : Value) (w : World) (hG : GV w) (h8 : 8 ≤ w.heap.size) (hv : QyV w v q) :
    Calls Tryz.prog 9 #[v] w fun e w' => e = .returned (.tuple #[.string ⟨(printP Lib.validD q).1.toArray⟩, .int .i64 (printP Lib.validD q).2]) ∧ Fr [] w w' := by
  obtain ⟨c2, c4, rfl, hm2, hm4⟩ := id hv
  obtain ⟨WQ, hWQ⟩ : ∃ WQ, w.alloc (.cells #[c2, .int .i64 q.level, c4, .int .i64 q.limit] 24) = WQ := ⟨_, rfl⟩
  have hFQ : Fr [] w WQ := by rw [← hWQ]; exact (Fr.refl _ _).alloc _
  have hQB : WQ.heap[w.heap.size]? = some (.cells #[c2, .int .i64 q.level, c4, .int .i64 q.limit] 24 (0, 0)) := by rw [← hWQ]; exact heap_alloc w _
  have q0 := cell_of hQB 0
  have q1 := cell_of hQB 1
  have q2 := cell_of hQB 2
  have q3 := cell_of hQB 3
  simp only [List.getElem?_toArray, List.getElem?_cons_zero, List.getElem?_cons_succ] at q0 q1 q2 q3
  have hr := right_any q _ WQ (hG.below (B := 8) (hFQ.below h8 (by simp)) (by omega)) (by have := hFQ.size; omega) (hv.fr hFQ)
  obtain ⟨z, hz⟩ : ∃ z, rightQ Lib.validD q = z := ⟨_, rfl⟩
  rw [hz] at hr
  have HQ := Lib.hid (And.intro hFQ hQB)
  clear hFQ hQB hm2 hm4
  by_cases h0 : z = 0
  · subst h0
    have hp : printP Lib.validD q = (textP q, 0) := by unfold printP; rw [hz, if_neg (by simp)]
    rw [hp]
    have ht : ∀ w', Fr [] w w' → Calls Tryz.prog 28 #[.agg #[c2, .int .i64 q.level, c4, .int .i64 q.limit]] w' fun e w'' => e = .returned (.string ⟨(textP q).toArray⟩) ∧ Fr [] w' w'' := fun w' hF =>
      text_any q (right_textOK hz) _ w' (hG.below (B := 8) (hF.below h8 (by simp)) (by omega)) (by have := hF.size; omega) (hv.fr hF)
    obtain ⟨Z, hZ⟩ : ∃ Z : ByteArray, ⟨(textP q).toArray⟩ = Z := ⟨_, rfl⟩
    rw [hZ] at ht ⊢
    have HT := Lib.hid ht
    clear hp hz hZ hv ht
    go_enter Tryz.func9, Tryz.ntmps9
    go_wp2_with fail
    (try rw [hWQ])
    go_wp2_with fail
    refine hr.mono ?_
    rintro e w1 ⟨rfl, hF⟩
    have h2 := HT.out w1 (HQ.out.1.trans hF)
    have hb1 := hF.obj HQ.out.2 (by simp)
    have d0 := cell_of hb1 0
    have d1 := cell_of hb1 1
    have d2 := cell_of hb1 2
    have d3 := cell_of hb1 3
    simp only [List.getElem?_toArray, List.getElem?_cons_zero, List.getElem?_cons_succ] at d0 d1 d2 d3
    have HF := Lib.hid (HQ.out.1.trans hF)
    clear hF hr hb1 hWQ q0 q1 q2 q3
    go_wp2_with fail
    refine h2.mono ?_
    rintro e w2 ⟨rfl, hF2⟩
    go_wp2_with fail
    go_ret2
    exact ⟨rfl, HF.out.trans hF2⟩
  · have hp : printP Lib.validD q = ([], z) := by unfold printP; rw [hz, if_pos h0]
    rw [hp]
    have e1 : (z == 0) = false := by simpa using h0
    clear hp hz h0 hv
    go_enter Tryz.func9, Tryz.ntmps9
    go_wp2_with fail
    (try rw [hWQ])
    go_wp2_with fail
    refine hr.mono ?_
    rintro e w1 ⟨rfl, hF⟩
    go_wp2_with fail
    go_ret2
    exact ⟨rfl, HQ.out.1.trans hF⟩
end Go.Proofs.YtaniaknphjnlkaaGreatDoor
