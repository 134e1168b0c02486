/- The reference's text of chapter 15. -/
import Derived.Test.YtdhmloejgoacaaaGreatDoorMw35
set_option linter.unusedVariables false
set_option linter.unusedSimpArgs false
namespace Go.Proofs.YtdhmloejgoacaaaGreatDoor
open Go.RowKit Go.Bl Go.Lq Go.Tq

def hasTT (q : Tq) : Bs := if q.has = 1 then 32 :: (wWith ++ 32 :: (wDesc ++ testT q.second)) else if q.has = 2 then 32 :: (wWith ++ 32 :: (wChild ++ testT q.second)) else []
def RX (H : Nat) (q : Tq) (v1 v2 : Value) (s : Value) (B : Bs) (w w' : World) : Prop := s = .string ⟨B.toArray⟩ ∧ B.length ≤ 40000000 ∧ w'.heap[H]? = some (.cells (QC q v1 v2) 47 (0, 0)) ∧ Fr [] w w'
set_option maxRecDepth 100000 in
set_option maxHeartbeats 4000000 in
theorem textTR_any (q : Tq) (v : Value) (w : World) (hG : GV w) (h8 : 8 ≤ w.heap.size) (hv : TqV w v q) (hok : TOk q) :
    Calls Tryz.prog 67 #[v] w fun e w' => e = .returned (.string ⟨(textT q).toArray⟩) ∧ Fr [] w w' := by
  obtain ⟨m1, m2, rfl, hm1, hm2⟩ := hv
  obtain ⟨A1, L1, C1, rfl⟩ : ∃ A L C, m1 = .slice A L C := by obtain ⟨A, c, e, _⟩ := hm1; exact ⟨A, _, c, e⟩
  obtain ⟨A2, L2, C2, rfl⟩ : ∃ A L C, m2 = .slice A L C := by obtain ⟨A, c, e, _⟩ := hm2; exact ⟨A, _, c, e⟩
  obtain ⟨X, hX⟩ : ∃ X, w.heap.size = X := ⟨_, rfl⟩
  have hF0 : Fr [] w (w.alloc (.cells (QC q (.slice A1 L1 C1) (.slice A2 L2 C2)) 47)) := (Fr.refl _ _).alloc _
  have hX0 := Go.Bl.heap_alloc w (.cells (QC q (.slice A1 L1 C1) (.slice A2 L2 C2)) 47)
  obtain ⟨w0, hw0⟩ : ∃ w0, w.alloc (.cells (QC q (.slice A1 L1 C1) (.slice A2 L2 C2)) 47) = w0 := ⟨_, rfl⟩
  rw [hw0, hX] at hX0
  rw [hw0] at hF0
  have HT : Hid (textT q = wSpans ++ (testT q.first ++ (hasTT q ++ limitT q))) := Lib.hid rfl
  have ht1 := fun W (hW : Fr [] w W) => testTextR_any q.first _ W (hG.frn hW h8) (Nat.le_trans h8 hW.size) (hm1.fr hW) hok.n1 hok.s1 hok.p1
  have ht2 := fun W (hW : Fr [] w W) => testTextR_any q.second _ W (hG.frn hW h8) (Nat.le_trans h8 hW.size) (hm2.fr hW) hok.n2 hok.s2 hok.p2
  have hl1 := testT_len hok.n1 hok.s1
  have hl2 := testT_len hok.n2 hok.s2
  go_enter Tryz.func67, Tryz.ntmps67
  go_upto_region 1 with fail
  unfold QC at hw0
  rw [hw0]
  (try rw [hX])
  clear hw0
  have q0 := cell_of hX0 0
  have q1 := cell_of hX0 1
  have q2 := cell_of hX0 2
  unfold QC at q0 q1 q2
  simp only [List.getElem?_toArray, List.getElem?_cons_zero, List.getElem?_cons_succ] at q0 q1 q2
  go_wp2_with fail
  refine (ht1 _ hF0).mono ?_
  rintro e w1 ⟨rfl, hF1⟩
  clear ht1 q0 q1 q2
  have hX1 := hF1.obj hX0 (by simp)
  have hF01 := hF0.trans hF1
  obtain ⟨Y, hY⟩ : ∃ Y : ByteArray, (⟨(testT q.first).toArray⟩ : ByteArray) = Y := ⟨_, rfl⟩
  have hYl : Y.data.toList = testT q.first := by rw [← hY]
  have hYs : Y.size ≤ 8010000 := by rw [← bytes_len, hYl]; exact hl1
  rw [hY]
  have g1 : ¬ 9223372036854775807 < 5 + Y.size := by omega
  obtain ⟨S1, hS1⟩ : ∃ S1 : ByteArray, (⟨#[115, 112, 97, 110, 115]⟩ : ByteArray) ++ Y = S1 := ⟨_, rfl⟩
  have hS1l : S1.data.toList = wSpans ++ testT q.first := by rw [← hS1, ← hYl]; simp [wSpans]
  have hS1s : S1.size ≤ 9000000 := by rw [← bytes_len, hS1l, List.length_append]; simp [wSpans]; omega
  have HS1 := Lib.hid hS1l
  clear hY hYl hYs hS1l hX0 hF0 hF1
  have hh := hok.has
  have hlim := hok.limit
  obtain ⟨hs, hhs⟩ : ∃ hs, q.has = hs := ⟨_, rfl⟩
  obtain ⟨lm, hlm⟩ : ∃ lm, q.limit = lm := ⟨_, rfl⟩
  have hit := fun W (hW : Fr [] w W) (h0 : 0 ≤ lm) (h1 : lm ≤ 1000) => itoa_any (n := lm) h0 h1 (hG.frn hW h8)
  have hdl := digs_lenT (n := q.limit.toNat) (by omega)
  rw [hlm] at hdl
  have hLT : limitT q = if lm ≠ 0 then 32 :: (wLimit ++ 32 :: digs lm.toNat) else [] := by rw [← hlm]; rfl
  have hHT : hasTT q = if hs = 1 then 32 :: (wWith ++ 32 :: (wDesc ++ testT q.second)) else if hs = 2 then 32 :: (wWith ++ 32 :: (wChild ++ testT q.second)) else [] := by rw [← hhs]; rfl
  have HLT := Lib.hid hLT
  have HHT := Lib.hid hHT
  have q0 := cell_of hX1 0
  have q1 := cell_of hX1 1
  have q2 := cell_of hX1 2
  have q3 := cell_of hX1 3
  have q4 := cell_of hX1 4
  have q5 := cell_of hX1 5
  have q6 := cell_of hX1 6
  have q7 := cell_of hX1 7
  unfold QC at q0 q1 q2 q3 q4 q5 q6 q7
  simp only [List.getElem?_toArray, List.getElem?_cons_zero, List.getElem?_cons_succ] at q0 q1 q2 q3 q4 q5 q6 q7
  rw [hhs] at q6 hh
  rw [hlm] at q7 hlim
  have hh3 : hs = 0 ∨ hs = 1 ∨ hs = 2 := by omega
  have hlmk := Lib.hid hlm
  have hhk := Lib.hid hhs
  clear hok hHT hLT hhs hlm
  rcases hh3 with rfl | rfl | rfl
  · have hht : hasTT q = [] := by rw [HHT.out, if_neg (by decide), if_neg (by decide)]
    have HPRE : Hid (S1.data.toList ++ limitT q = textT q) := Lib.hid (by rw [HT.out, hht, HS1.out]; simp)
    by_cases hl0 : lm = 0
    · have hb : (lm != 0) = false := by simp [hl0]
      have hlt : limitT q = [] := by rw [HLT.out, if_neg (by simp [hl0])]
      have HL := Lib.hid hlt
      clear hlt hl0
      go_wp2_with fail
      (try rw [hS1])
      go_wp2_with fail
      go_ret
      refine ⟨ret_val (congrArg Value.string ?_), hF01⟩
      apply bs_ext
      have h := HPRE.out
      rw [HL.out, List.append_nil] at h
      exact h
    · have hb : (lm != 0) = true := by simp [hl0]
      have hlt : limitT q = 32 :: (wLimit ++ 32 :: digs lm.toNat) := by rw [HLT.out, if_pos hl0]
      have HL := Lib.hid hlt
      clear hlt hl0
      go_wp2_with fail
      (try rw [hS1])
      go_wp2_with fail
      refine (hit _ (hF01) hlim.1 hlim.2).mono ?_
      rintro e w9 ⟨rfl, hF9⟩
      obtain ⟨Z, hZ⟩ : ∃ Z : ByteArray, (⟨(digs lm.toNat).toArray⟩ : ByteArray) = Z := ⟨_, rfl⟩
      have hZl : Z.data.toList = digs lm.toNat := by rw [← hZ]
      have hZs : Z.size ≤ 4 := by rw [← bytes_len, hZl]; exact hdl
      rw [hZ]
      have k1 : ¬ 9223372036854775807 < S1.size + 7 := by omega
      have k2 : ¬ 9223372036854775807 < S1.size + 7 + Z.size := by omega
      have HZ := Lib.hid hZl
      clear hZ hZl
      go_wp2_with fail
      go_ret
      refine ⟨ret_val (congrArg Value.string ?_), Fr.trans (hF01) hF9⟩
      apply bs_ext
      rw [← HPRE.out, HL.out, ← HZ.out]
      simp [wLimit]
  · have hht : hasTT q = 32 :: (wWith ++ 32 :: (wDesc ++ testT q.second)) := by rw [HHT.out, if_pos rfl]
    have k0 : ¬ 9223372036854775807 < S1.size + 16 := by omega
    have HX1 := Lib.hid hX1
    go_wp2_with fail
    (try rw [hS1])
    go_wp2_with fail
    refine (ht2 _ hF01).mono ?_
    rintro e w2 ⟨rfl, hF2⟩
    have hX2 := hF2.obj HX1.out (by simp)
    have hF02 := hF01.trans hF2
    clear q0 q1 q2 q3 q4 q5 q6 q7 hX1 hF2
    have q6 := cell_of hX2 6
    have q7 := cell_of hX2 7
    unfold QC at q6 q7
    simp only [List.getElem?_toArray, List.getElem?_cons_zero, List.getElem?_cons_succ] at q6 q7
    obtain ⟨Y2, hY2⟩ : ∃ Y2 : ByteArray, (⟨(testT q.second).toArray⟩ : ByteArray) = Y2 := ⟨_, rfl⟩
    have hY2l : Y2.data.toList = testT q.second := by rw [← hY2]
    have hY2s : Y2.size ≤ 8010000 := by rw [← bytes_len, hY2l]; exact hl2
    rw [hY2]
    have k5 : ¬ 9223372036854775807 < S1.size + 16 + Y2.size := by omega
    obtain ⟨S2, hS2⟩ : ∃ S2 : ByteArray, S1 ++ ⟨#[32, 119, 105, 116, 104, 32, 100, 101, 115, 99, 101, 110, 100, 97, 110, 116]⟩ ++ Y2 = S2 := ⟨_, rfl⟩
    have hS2l : S2.data.toList = S1.data.toList ++ (32 :: (wWith ++ 32 :: (wDesc ++ testT q.second))) := by rw [← hS2, ← hY2l]; simp [wWith, wDesc]
    have hS2s : S2.size ≤ 20000000 := by rw [← bytes_len, hS2l, List.length_append, bytes_len]; simp [wWith, wDesc]; omega
    have hhs6 : q.has = 1 := hhk.out
    have hlm7 : q.limit = lm := hlmk.out
    rw [hhs6] at q6
    rw [hlm7] at q7
    clear hY2 hY2l hhs6 hlm7
    have HPRE : Hid (S2.data.toList ++ limitT q = textT q) := Lib.hid (by rw [HT.out, hht, hS2l, HS1.out]; simp)
    by_cases hl0 : lm = 0
    · have hb : (lm != 0) = false := by simp [hl0]
      have hlt : limitT q = [] := by rw [HLT.out, if_neg (by simp [hl0])]
      have HL := Lib.hid hlt
      clear hlt hl0
      go_wp2_with fail
      (try rw [hS2])
      go_wp2_with fail
      go_ret
      refine ⟨ret_val (congrArg Value.string ?_), hF02⟩
      apply bs_ext
      have h := HPRE.out
      rw [HL.out, List.append_nil] at h
      exact h
    · have hb : (lm != 0) = true := by simp [hl0]
      have hlt : limitT q = 32 :: (wLimit ++ 32 :: digs lm.toNat) := by rw [HLT.out, if_pos hl0]
      have HL := Lib.hid hlt
      clear hlt hl0
      go_wp2_with fail
      (try rw [hS2])
      go_wp2_with fail
      refine (hit _ (hF02) hlim.1 hlim.2).mono ?_
      rintro e w9 ⟨rfl, hF9⟩
      obtain ⟨Z, hZ⟩ : ∃ Z : ByteArray, (⟨(digs lm.toNat).toArray⟩ : ByteArray) = Z := ⟨_, rfl⟩
      have hZl : Z.data.toList = digs lm.toNat := by rw [← hZ]
      have hZs : Z.size ≤ 4 := by rw [← bytes_len, hZl]; exact hdl
      rw [hZ]
      have k1 : ¬ 9223372036854775807 < S2.size + 7 := by omega
      have k2 : ¬ 9223372036854775807 < S2.size + 7 + Z.size := by omega
      have HZ := Lib.hid hZl
      clear hZ hZl
      go_wp2_with fail
      go_ret
      refine ⟨ret_val (congrArg Value.string ?_), Fr.trans (hF02) hF9⟩
      apply bs_ext
      rw [← HPRE.out, HL.out, ← HZ.out]
      simp [wLimit]
  · have hht : hasTT q = 32 :: (wWith ++ 32 :: (wChild ++ testT q.second)) := by rw [HHT.out, if_neg (by decide), if_pos rfl]
    have k0 : ¬ 9223372036854775807 < S1.size + 11 := by omega
    have HX1 := Lib.hid hX1
    go_wp2_with fail
    (try rw [hS1])
    go_wp2_with fail
    refine (ht2 _ hF01).mono ?_
    rintro e w2 ⟨rfl, hF2⟩
    have hX2 := hF2.obj HX1.out (by simp)
    have hF02 := hF01.trans hF2
    clear q0 q1 q2 q3 q4 q5 q6 q7 hX1 hF2
    have q6 := cell_of hX2 6
    have q7 := cell_of hX2 7
    unfold QC at q6 q7
    simp only [List.getElem?_toArray, List.getElem?_cons_zero, List.getElem?_cons_succ] at q6 q7
    obtain ⟨Y2, hY2⟩ : ∃ Y2 : ByteArray, (⟨(testT q.second).toArray⟩ : ByteArray) = Y2 := ⟨_, rfl⟩
    have hY2l : Y2.data.toList = testT q.second := by rw [← hY2]
    have hY2s : Y2.size ≤ 8010000 := by rw [← bytes_len, hY2l]; exact hl2
    rw [hY2]
    have k5 : ¬ 9223372036854775807 < S1.size + 11 + Y2.size := by omega
    obtain ⟨S2, hS2⟩ : ∃ S2 : ByteArray, S1 ++ ⟨#[32, 119, 105, 116, 104, 32, 99, 104, 105, 108, 100]⟩ ++ Y2 = S2 := ⟨_, rfl⟩
    have hS2l : S2.data.toList = S1.data.toList ++ (32 :: (wWith ++ 32 :: (wChild ++ testT q.second))) := by rw [← hS2, ← hY2l]; simp [wWith, wChild]
    have hS2s : S2.size ≤ 20000000 := by rw [← bytes_len, hS2l, List.length_append, bytes_len]; simp [wWith, wChild]; omega
    have hhs6 : q.has = 2 := hhk.out
    have hlm7 : q.limit = lm := hlmk.out
    rw [hhs6] at q6
    rw [hlm7] at q7
    clear hY2 hY2l hhs6 hlm7
    have HPRE : Hid (S2.data.toList ++ limitT q = textT q) := Lib.hid (by rw [HT.out, hht, hS2l, HS1.out]; simp)
    by_cases hl0 : lm = 0
    · have hb : (lm != 0) = false := by simp [hl0]
      have hlt : limitT q = [] := by rw [HLT.out, if_neg (by simp [hl0])]
      have HL := Lib.hid hlt
      clear hlt hl0
      go_wp2_with fail
      (try rw [hS2])
      go_wp2_with fail
      go_ret
      refine ⟨ret_val (congrArg Value.string ?_), hF02⟩
      apply bs_ext
      have h := HPRE.out
      rw [HL.out, List.append_nil] at h
      exact h
    · have hb : (lm != 0) = true := by simp [hl0]
      have hlt : limitT q = 32 :: (wLimit ++ 32 :: digs lm.toNat) := by rw [HLT.out, if_pos hl0]
      have HL := Lib.hid hlt
      clear hlt hl0
      go_wp2_with fail
      (try rw [hS2])
      go_wp2_with fail
      refine (hit _ (hF02) hlim.1 hlim.2).mono ?_
      rintro e w9 ⟨rfl, hF9⟩
      obtain ⟨Z, hZ⟩ : ∃ Z : ByteArray, (⟨(digs lm.toNat).toArray⟩ : ByteArray) = Z := ⟨_, rfl⟩
      have hZl : Z.data.toList = digs lm.toNat := by rw [← hZ]
      have hZs : Z.size ≤ 4 := by rw [← bytes_len, hZl]; exact hdl
      rw [hZ]
      have k1 : ¬ 9223372036854775807 < S2.size + 7 := by omega
      have k2 : ¬ 9223372036854775807 < S2.size + 7 + Z.size := by omega
      have HZ := Lib.hid hZl
      clear hZ hZl
      go_wp2_with fail
      go_ret
      refine ⟨ret_val (congrArg Value.string ?_), Fr.trans (hF02) hF9⟩
      apply bs_ext
      rw [← HPRE.out, HL.out, ← HZ.out]
      simp [wLimit]
end Go.Proofs.YtdhmloejgoacaaaGreatDoor
