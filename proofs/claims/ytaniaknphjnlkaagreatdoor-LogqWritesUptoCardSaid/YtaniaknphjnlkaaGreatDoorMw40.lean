/- The reference's eachMatch, RightMatch. -/
import Derived.Test.YtaniaknphjnlkaaGreatDoorMw39
import Derived.Test.YtaniaknphjnlkaaGreatDoorLqRight2
namespace Go.Proofs.YtaniaknphjnlkaaGreatDoor
open Go.RowKit Go.Bl Go.Lq

set_option maxRecDepth 100000 in
set_option maxHeartbeats 800000 in
theorem eachMatch_any (l : List Mt) (v : Value) (w : World) (hl1 : l.length ≤ 1000) (hM : Mts w v l) :
    Calls Tryz.prog 55 #[v] w fun e w' => e = .returned (.int .i64 (wrongM Lib.validD l)) ∧ Fr [] w w' := by
  obtain ⟨A, cp, rfl, hl, hx⟩ := hM
  have HX := Lib.hid hx
  obtain ⟨ans, hans⟩ : ∃ ans, wrongM Lib.validD l = ans := ⟨_, rfl⟩
  rw [hans]
  have HANS := Lib.hid hans
  clear hx hans
  go_enter Tryz.func55, Tryz.ntmps55
  go_wp2_with fail
  go_loopw [3] (fun iv wr => WrRel w l iv wr) (fun iv _ => l.length - (intOf iv).toNat)
  case atStart => exact ⟨0, rfl, by omega, Fr.refl _ _, rfl⟩
  case round =>
    obtain ⟨k, rfl, hk, hF, hw⟩ := hrel
    by_cases hk2 : k < l.length
    · obtain ⟨ad, rfl, m0, m1, m2⟩ := HX.out k hk2
      have c0 := cell_frS hF m0 (by simp)
      have c1 := cell_frS hF m1 (by simp)
      have c2 := cell_frS hF m2 (by simp)
      have hsp := World.cell?_spot c0
      clear m0 m1 m2
      obtain ⟨m, hm⟩ : ∃ m, l[k] = m := ⟨_, rfl⟩
      rw [List.drop_eq_getElem_cons hk2] at hw
      rw [hm] at c0 c1 c2 hw
      rw [wrongM_cons, HANS.out] at hw
      obtain ⟨K, hK⟩ : ∃ K : ByteArray, ⟨m.key.toArray⟩ = K := ⟨_, rfl⟩
      obtain ⟨V, hV⟩ : ∃ V : ByteArray, ⟨m.val.toArray⟩ = V := ⟨_, rfl⟩
      rw [hK] at c1
      rw [hV] at c2
      have hkl : (k : Int) < (l.length : Int) := by omega
      have hk1 : k + 1 ≤ 100000 := by omega
      have hKl : K.data.toList = m.key := by rw [← hK]
      have hVl : V.data.toList = m.val := by rw [← hV]
      have HW := Lib.hid (And.intro hw hF)
      clear hw hF hm hK hV
      by_cases ho1 : m.op < 1
      · go_wp2_with fail
        go_ret
        refine ⟨?_, HW.out.2⟩
        have := HW.out.1
        rw [if_pos (.inl ho1)] at this
        rw [this]
        rfl
      · by_cases ho2 : m.op > 4
        · go_wp2_with fail
          go_ret
          refine ⟨?_, HW.out.2⟩
          have := HW.out.1
          rw [if_pos (.inr ho2)] at this
          rw [this]
          rfl
        · have HO : Hid (¬ (m.op < 1 ∨ 4 < m.op)) := by show ¬ _; omega
          have hka := keyR_any K wr
          rw [hKl] at hka
          obtain ⟨bk, hbk⟩ : ∃ bk, keyP m.key = bk := ⟨_, rfl⟩
          rw [hbk] at hka
          have HBK := Lib.hid hbk
          clear hbk
          go_wp2_with fail
          refine hka.mono ?_
          rintro e w1 ⟨rfl, hF1⟩
          have d2 := cell_frS hF1 c2 (by simp)
          have HF1 := Lib.hid hF1
          clear hF1 hka c0 c1 c2
          cases bk with
          | false =>
            go_wp2_with fail
            go_ret
            refine ⟨?_, HW.out.2.trans HF1.out⟩
            have := HW.out.1
            rw [if_neg HO.out, HBK.out] at this
            rw [this]
            rfl
          | true =>
            have hpl := textR_plain V w1
            rw [hVl] at hpl
            obtain ⟨bp, hbp⟩ : ∃ bp, plainP Lib.validD m.val = bp := ⟨_, rfl⟩
            rw [hbp] at hpl
            have HBP := Lib.hid hbp
            clear hbp
            go_wp2_with fail
            refine hpl.mono ?_
            rintro e w2 ⟨rfl, hF3⟩
            have hF4 := (HW.out.2.trans HF1.out).trans hF3
            cases bp with
            | false =>
              go_wp2_with fail
              go_ret
              refine ⟨?_, hF4⟩
              have := HW.out.1
              rw [if_neg HO.out, HBK.out, HBP.out] at this
              rw [this]
              rfl
            | true =>
              have hwk : True → wrap64 ((k : Int) + 1) = (k : Int) + 1 := fun _ => wrap_sum (x := k) (c := 1) hk1
              go_wp2_with fail
              refine ⟨⟨k + 1, rfl, hk2, hF4, ?_⟩, by simp [intOf]; omega⟩
              have := HW.out.1
              rw [if_neg HO.out, HBK.out, HBP.out] at this
              rw [HANS.out, this]
              rfl
    · obtain rfl : k = l.length := by omega
      have g1 : ¬ (l.length : Int) < (l.length : Int) := by omega
      rw [List.drop_of_length_le (Nat.le_refl _), HANS.out] at hw
      have HW := Lib.hid (And.intro hw hF)
      clear hw hF
      go_wp2_with fail
      go_ret
      refine ⟨?_, HW.out.2⟩
      rw [HW.out.1]
      rfl
set_option maxRecDepth 100000 in
theorem rightMatchR_any (l : List Mt) (v : Value) (w : World) (hM : Mts w v l) :
    Calls Tryz.prog 32 #[v] w fun e w' => e = .returned (.int .i64 (rightM Lib.validD l)) ∧ Fr [] w w' := by
  obtain ⟨A, cp, rfl, hl, hx⟩ := id hM
  by_cases h : 8 < l.length
  · have hr : rightM Lib.validD l = 7 := by unfold rightM; rw [if_pos h]
    rw [hr]
    have h1 : (l.length : Int) > 8 := by omega
    clear hr hx hM
    go_enter Tryz.func32, Tryz.ntmps32
    go_wp2
    go_ret
    exact ⟨rfl, Fr.refl _ _⟩
  · have hr : rightM Lib.validD l = wrongM Lib.validD l := by unfold rightM; rw [if_neg h]
    rw [hr]
    have hw := eachMatch_any l _ w (by omega) hM
    have h1 : ¬ (l.length : Int) > 8 := by omega
    obtain ⟨ans, hans⟩ : ∃ ans, wrongM Lib.validD l = ans := ⟨_, rfl⟩
    rw [hans] at hw ⊢
    clear hr hx hM hans
    go_enter Tryz.func32, Tryz.ntmps32
    go_wp2_with fail
    refine hw.mono ?_
    rintro e w' ⟨rfl, hF⟩
    go_wp2
    go_ret
    exact ⟨rfl, hF⟩
end Go.Proofs.YtaniaknphjnlkaaGreatDoor
namespace Go.Proofs.YtaniaknphjnlkaaGreatDoor
open Go.RowKit Go.Bl Go.Lq

set_option maxRecDepth 100000 in
set_option maxHeartbeats 800000 in
theorem rightTest_any (m : Mt) (w : World) :
    Calls Tryz.prog 33 #[.agg #[.int .i64 m.op, .string ⟨m.key.toArray⟩, .string ⟨m.val.toArray⟩]] w fun e w' => e = .returned (.int .i64 (wrongT Lib.validD m)) ∧ Fr [] w w' := by
  obtain ⟨op, ho0⟩ : ∃ op, m.op = op := ⟨_, rfl⟩
  obtain ⟨K, hK⟩ : ∃ K : ByteArray, ⟨m.key.toArray⟩ = K := ⟨_, rfl⟩
  obtain ⟨V, hV⟩ : ∃ V : ByteArray, ⟨m.val.toArray⟩ = V := ⟨_, rfl⟩
  have hKe := empty_iff K
  have hKl : K.data.toList = m.key := by rw [← hK]
  have hVl : V.data.toList = m.val := by rw [← hV]
  rw [hKl] at hKe
  rw [hK, hV, ho0]
  have hF1 : Fr [] w (w.alloc (.cells #[.int .i64 op, .string K, .string V] 56)) := (Fr.refl _ _).alloc _
  have hF2 := hF1.alloc (.cells #[.int .i64 op, .string K, .string V] 56)
  by_cases hk : m.key = []
  · rw [decide_eq_true hk] at hKe
    by_cases ho : op ≠ 3 ∧ op ≠ 4
    · have hr : wrongT Lib.validD m = 42 := by unfold wrongT; rw [if_neg (by simp [hk]), ho0, if_pos ho]
      rw [hr]
      have q1 : (op == 3) = false := by simpa using ho.1
      have q2 : (op == 4) = false := by simpa using ho.2
      have q3 : (op != 3) = true := by simpa using ho.1
      have q4 : (op != 4) = true := by simpa using ho.2
      have q5 : ¬ op = 3 := ho.1
      have q6 : ¬ op = 4 := ho.2
      have HF := Lib.hid hF1
      clear hr ho ho0 hk hK hV hKl hVl hF1 hF2
      go_enter Tryz.func33, Tryz.ntmps33
      go_wp2
      go_ret
      exact ⟨rfl, HF.out⟩
    · have hv := valueR_any V (w.alloc (.cells #[.int .i64 op, .string K, .string V] 56))
      rw [hVl] at hv
      have hr : wrongT Lib.validD m = if !valueP Lib.validD m.val then 41 else 0 := by unfold wrongT; rw [if_neg (by simp [hk]), ho0, if_neg ho]
      rw [hr]
      obtain ⟨b, hb⟩ : ∃ b, valueP Lib.validD m.val = b := ⟨_, rfl⟩
      rw [hb] at hv ⊢
      have HF := Lib.hid hF1
      have ho2 : op = 3 ∨ op = 4 := by omega
      clear hr hb ho0 hk hK hV hKl hVl hF1 hF2 ho
      rcases ho2 with rfl | rfl
      · skip
        go_enter Tryz.func33, Tryz.ntmps33
        go_wp2_with fail
        refine hv.mono ?_
        rintro e w' ⟨rfl, hF⟩
        cases b
        · go_wp2
          go_ret
          exact ⟨rfl, HF.out.trans hF⟩
        · go_wp2
          go_ret
          exact ⟨rfl, HF.out.trans hF⟩
      · skip
        go_enter Tryz.func33, Tryz.ntmps33
        go_wp2_with fail
        refine hv.mono ?_
        rintro e w' ⟨rfl, hF⟩
        cases b
        · go_wp2
          go_ret
          exact ⟨rfl, HF.out.trans hF⟩
        · go_wp2
          go_ret
          exact ⟨rfl, HF.out.trans hF⟩
  · rw [decide_eq_false hk] at hKe
    have hB := heap_alloc (w.alloc (.cells #[.int .i64 op, .string K, .string V] 56)) (.cells #[.int .i64 op, .string K, .string V] 56)
    rw [size_alloc'] at hB
    have hrm := rightMatchR_any [m] (.slice (some ⟨w.heap.size + 1, 0, none⟩) 1 1) ((w.alloc (.cells #[.int .i64 op, .string K, .string V] 56)).alloc (.cells #[.int .i64 op, .string K, .string V] 56)) ⟨_, _, rfl, by simp, fun i hi => ⟨_, rfl, by
      obtain rfl : i = 0 := by simpa using hi
      refine ⟨?_, ?_, ?_⟩
      · rw [add_at', cell_of hB, ← ho0]; rfl
      · rw [add_at', cell_of hB, ← hK]; rfl
      · rw [add_at', cell_of hB, ← hV]; rfl⟩⟩
    have hr : wrongT Lib.validD m = rightM Lib.validD [m] := by unfold wrongT; rw [if_pos hk]
    rw [hr]
    obtain ⟨ans, hans⟩ : ∃ ans, rightM Lib.validD [m] = ans := ⟨_, rfl⟩
    rw [hans] at hrm ⊢
    have HF := Lib.hid hF2
    clear hr ho0 hk hK hV hKl hVl hF1 hF2 hB hans
    go_enter Tryz.func33, Tryz.ntmps33
    go_wp2_with fail
    refine hrm.mono ?_
    rintro e w' ⟨rfl, hF⟩
    go_wp2
    go_ret
    exact ⟨rfl, HF.out.trans hF⟩
end Go.Proofs.YtaniaknphjnlkaaGreatDoor
