/- traceq.Right: can a query be? -/
import Derived.Test.YtdhmloejgoacaaaGreatDoorTqTextW
set_option linter.unusedVariables false
set_option linter.unusedSimpArgs false
namespace Go.Proofs.YtdhmloejgoacaaaGreatDoor
open Go.RowKit Go.Bl Go.Lq Go.Tq

def TwoT (q : Tq) (m1 m2 : Value) : Array Value := #[.string ⟨q.first.name.toArray⟩, .int .i64 q.first.least, m1, .string ⟨q.second.name.toArray⟩, .int .i64 q.second.least, m2]
def RiRel (q : Tq) (m1 m2 : Value) (X S : Nat) (w : World) (v : Value) (wr : World) : Prop :=
  ∃ i : Nat, v = .int .i64 (i : Int) ∧ i ≤ 2 ∧ wr.heap[X]? = some (.cells (QC q m1 m2) 47 (0, 0)) ∧ wr.heap[S]? = some (.cells (TwoT q m1 m2) 45 (0, 0)) ∧ Fr [] w wr ∧
    (1 ≤ i → wrongS Lib.validD q.first = 0) ∧ (2 ≤ i → wrongS Lib.validD q.second = 0)
def RiPost (q : Tq) (w : World) (e : Ending) (w' : World) : Prop := e = .returned (.int .i64 (rightT Lib.validD q)) ∧ Fr [] w w'
theorem st_zero (w : World) : StV w (.agg #[.string ⟨#[]⟩, .int .i64 0, .slice none 0 0]) emptySt := ⟨.slice none 0 0, rfl, Mts.nil w⟩
set_option maxRecDepth 100000 in
set_option maxHeartbeats 4000000 in
theorem rightT_any (q : Tq) (v : Value) (w : World) (hG : GV w) (h8 : 8 ≤ w.heap.size) (hv : TqV w v q) :
    Calls Tryz.prog 29 #[v] w (RiPost q w) := by
  obtain ⟨m1, m2, rfl, hm1, hm2⟩ := hv
  obtain ⟨A1, L1, C1, rfl⟩ : ∃ A L C, m1 = .slice A L C := by obtain ⟨A, c, e, _⟩ := hm1; exact ⟨A, _, c, e⟩
  obtain ⟨A2, L2, C2, rfl⟩ : ∃ A L C, m2 = .slice A L C := by obtain ⟨A, c, e, _⟩ := hm2; exact ⟨A, _, c, e⟩
  obtain ⟨X, hX⟩ : ∃ X, w.heap.size = X := ⟨_, rfl⟩
  have hF0 : Fr [] w (w.alloc (.cells (QC q (.slice A1 L1 C1) (.slice A2 L2 C2)) 47)) := (Fr.refl _ _).alloc _
  have hX0 := Go.Bl.heap_alloc w (.cells (QC q (.slice A1 L1 C1) (.slice A2 L2 C2)) 47)
  obtain ⟨w0, hw0⟩ : ∃ w0, w.alloc (.cells (QC q (.slice A1 L1 C1) (.slice A2 L2 C2)) 47) = w0 := ⟨_, rfl⟩
  rw [hw0, hX] at hX0
  rw [hw0] at hF0
  go_enter Tryz.func29, Tryz.ntmps29
  go_upto_region 1 with fail
  unfold QC at hw0
  rw [hw0]
  (try rw [hX])
  clear hw0
  have q0 := cell_of hX0 0
  have q1 := cell_of hX0 1
  have q2 := cell_of hX0 2
  have q3 := cell_of hX0 3
  have q4 := cell_of hX0 4
  have q5 := cell_of hX0 5
  unfold QC at q0 q1 q2 q3 q4 q5
  simp only [List.getElem?_toArray, List.getElem?_cons_zero, List.getElem?_cons_succ] at q0 q1 q2 q3 q4 q5
  have hS1 := Go.Bl.heap_alloc w0 (.cells (TwoT q (.slice A1 L1 C1) (.slice A2 L2 C2)) 45)
  obtain ⟨S, hS⟩ : ∃ S, w0.heap.size = S := ⟨_, rfl⟩
  rw [hS] at hS1
  have hF1 := hF0.alloc (.cells (TwoT q (.slice A1 L1 C1) (.slice A2 L2 C2)) 45)
  have hX1 := (Fr.refl [] w0).alloc (.cells (TwoT q (.slice A1 L1 C1) (.slice A2 L2 C2)) 45) |>.obj hX0 (by simp)
  have H0 : RiRel q (.slice A1 L1 C1) (.slice A2 L2 C2) X S w (.int .i64 0) (w0.alloc (.cells (TwoT q (.slice A1 L1 C1) (.slice A2 L2 C2)) 45)) := ⟨0, rfl, by omega, hX1, hS1, hF1, fun h => by omega, fun h => by omega⟩
  clear hS1 hF1 hX1 hF0
  unfold TwoT at H0
  go_wp2_with fail
  clear q0 q1 q2 q3 q4 q5 hX0
  go_loopw [12] (fun v wr => RiRel q (.slice A1 L1 C1) (.slice A2 L2 C2) X S w v wr) (fun v _ => 2 - (intOf v).toNat)
  case atStart => exact H0
  case round =>
    clear H0
    obtain ⟨i, rfl, hi, hX1, hS1, hF, hi1, hi2⟩ := hrel
    have HI := Lib.hid (And.intro hi1 hi2)
    clear hi1 hi2
    have hGr := hG.frn hF h8
    have h8r := Nat.le_trans h8 hF.size
    have hic : i = 0 ∨ i = 1 ∨ i = 2 := by omega
    have hS2 := hS1
    unfold TwoT at hS2
    rcases hic with rfl | rfl | rfl
    all_goals have c0 := cell_of hS2 0
    all_goals have c1 := cell_of hS2 1
    all_goals have c2 := cell_of hS2 2
    all_goals have c3 := cell_of hS2 3
    all_goals have c4 := cell_of hS2 4
    all_goals have c5 := cell_of hS2 5
    all_goals clear hS2
    all_goals simp only [List.getElem?_toArray, List.getElem?_cons_zero, List.getElem?_cons_succ] at c0 c1 c2 c3 c4 c5
    · have hc := fun W (hF' : Fr [] wr W) => wrongS_any q.first (.slice A1 L1 C1) W (hGr.frn hF' h8r) (Nat.le_trans h8r hF'.size) ((hm1.fr hF).fr hF')
      have hT := Go.Bl.heap_alloc wr (.cells #[.string ⟨q.first.name.toArray⟩, .int .i64 q.first.least, (.slice A1 L1 C1)] 45)
      have hFT : Fr [] wr (wr.alloc (.cells #[.string ⟨q.first.name.toArray⟩, .int .i64 q.first.least, (.slice A1 L1 C1)] 45)) := (Fr.refl _ _).alloc _
      obtain ⟨T, hTe⟩ : ∃ T, wr.heap.size = T := ⟨_, rfl⟩
      rw [hTe] at hT
      have HX := Lib.hid (And.intro hX1 hS1)
      clear hX1 hS1
      go_upto_region 4 with fail
      obtain ⟨w5, hw5⟩ : ∃ w5, wr.alloc (.cells #[.string ⟨q.first.name.toArray⟩, .int .i64 q.first.least, (.slice A1 L1 C1)] 45) = w5 := ⟨_, rfl⟩
      rw [hw5] at hT hFT ⊢
      (try rw [hTe])
      clear hw5 hTe
      have t0 := cell_of hT 0
      have t1 := cell_of hT 1
      have t2 := cell_of hT 2
      simp only [List.getElem?_toArray, List.getElem?_cons_zero, List.getElem?_cons_succ] at t0 t1 t2
      go_wp2_with fail
      refine (hc _ hFT).mono ?_
      rintro e w6 ⟨rfl, hF6⟩
      obtain ⟨n, hn⟩ : ∃ n, wrongS Lib.validD q.first = n := ⟨_, rfl⟩
      rw [hn]
      have HN := Lib.hid hn
      have hFw := hF.trans (hFT.trans hF6)
      have hX6 := (hFT.trans hF6).obj HX.out.1 (by simp)
      have hS6 := (hFT.trans hF6).obj HX.out.2 (by simp)
      clear hn hc t0 t1 t2 hT hF6 hFT c0 c1 c2
      by_cases h0 : n = 0
      · subst h0
        go_wp2_with fail
        exact ⟨⟨1, rfl, by omega, hX6, hS6, hFw, fun _ => HN.out, fun h => by omega⟩, by simp [intOf]⟩
      · have h1 : (n != 0) = true := by simpa using h0
        have hr : rightT Lib.validD q = n := by
          unfold rightT
          rw [if_pos (by rw [HN.out]; exact h0), HN.out]
        have HR := Lib.hid hr
        clear hr h0
        go_wp2_with fail
        go_ret
        exact ⟨by rw [HR.out]; rfl, hFw⟩
    · have hc := fun W (hF' : Fr [] wr W) => wrongS_any q.second (.slice A2 L2 C2) W (hGr.frn hF' h8r) (Nat.le_trans h8r hF'.size) ((hm2.fr hF).fr hF')
      have hT := Go.Bl.heap_alloc wr (.cells #[.string ⟨q.second.name.toArray⟩, .int .i64 q.second.least, (.slice A2 L2 C2)] 45)
      have hFT : Fr [] wr (wr.alloc (.cells #[.string ⟨q.second.name.toArray⟩, .int .i64 q.second.least, (.slice A2 L2 C2)] 45)) := (Fr.refl _ _).alloc _
      obtain ⟨T, hTe⟩ : ∃ T, wr.heap.size = T := ⟨_, rfl⟩
      rw [hTe] at hT
      have HX := Lib.hid (And.intro hX1 hS1)
      clear hX1 hS1
      go_upto_region 4 with fail
      obtain ⟨w5, hw5⟩ : ∃ w5, wr.alloc (.cells #[.string ⟨q.second.name.toArray⟩, .int .i64 q.second.least, (.slice A2 L2 C2)] 45) = w5 := ⟨_, rfl⟩
      rw [hw5] at hT hFT ⊢
      (try rw [hTe])
      clear hw5 hTe
      have t0 := cell_of hT 0
      have t1 := cell_of hT 1
      have t2 := cell_of hT 2
      simp only [List.getElem?_toArray, List.getElem?_cons_zero, List.getElem?_cons_succ] at t0 t1 t2
      go_wp2_with fail
      refine (hc _ hFT).mono ?_
      rintro e w6 ⟨rfl, hF6⟩
      obtain ⟨n, hn⟩ : ∃ n, wrongS Lib.validD q.second = n := ⟨_, rfl⟩
      rw [hn]
      have HN := Lib.hid hn
      have hFw := hF.trans (hFT.trans hF6)
      have hX6 := (hFT.trans hF6).obj HX.out.1 (by simp)
      have hS6 := (hFT.trans hF6).obj HX.out.2 (by simp)
      clear hn hc t0 t1 t2 hT hF6 hFT c0 c1 c2
      by_cases h0 : n = 0
      · subst h0
        go_wp2_with fail
        exact ⟨⟨2, rfl, by omega, hX6, hS6, hFw, HI.out.1 ∘ (fun _ => by omega), fun _ => HN.out⟩, by simp [intOf]⟩
      · have h1 : (n != 0) = true := by simpa using h0
        have hr : rightT Lib.validD q = n := by
          unfold rightT
          rw [if_neg (by rw [HI.out.1 (by omega)]; simp)]; rw [if_pos (by rw [HN.out]; exact h0), HN.out]
        have HR := Lib.hid hr
        clear hr h0
        go_wp2_with fail
        go_ret
        exact ⟨by rw [HR.out]; rfl, hFw⟩
    · have h1 := HI.out.1 (by omega)
      have h2 := HI.out.2 (by omega)
      have q3 := cell_of hX1 3
      have q4 := cell_of hX1 4
      have q5 := cell_of hX1 5
      have q6 := cell_of hX1 6
      have q7 := cell_of hX1 7
      have q0 := cell_of hX1 0
      have q1 := cell_of hX1 1
      have q2 := cell_of hX1 2
      unfold QC at q0 q1 q2 q3 q4 q5 q6 q7
      simp only [List.getElem?_toArray, List.getElem?_cons_zero, List.getElem?_cons_succ] at q0 q1 q2 q3 q4 q5 q6 q7
      clear c0 c1 c2 c3 c4 c5
      have hr : rightT Lib.validD q = if q.has < 0 ∨ 2 < q.has ∨ q.limit < 0 ∨ 1000 < q.limit then 1 else if q.has = 0 ∧ q.second ≠ emptySt then 3 else if 1024 < (textT q).length then 4 else 0 := by
        unfold rightT
        rw [if_neg (by simp [h1]), if_neg (by simp [h2])]
      have HR := Lib.hid hr
      have H12 := Lib.hid (And.intro h1 h2)
      clear hr h1 h2
      by_cases k1 : q.has < 0
      · have hr : rightT Lib.validD q = 1 := by rw [HR.out, if_pos (.inl k1)]
        have HR1 := Lib.hid hr
        clear hr
        go_wp2_with fail
        go_ret
        exact ⟨by rw [HR1.out]; rfl, hF⟩
      by_cases k2 : q.has > 2
      · have hr : rightT Lib.validD q = 1 := by rw [HR.out, if_pos (.inr (.inl k2))]
        have HR1 := Lib.hid hr
        clear hr
        go_wp2_with fail
        go_ret
        exact ⟨by rw [HR1.out]; rfl, hF⟩
      by_cases k3 : q.limit < 0
      · have hr : rightT Lib.validD q = 1 := by rw [HR.out, if_pos (.inr (.inr (.inl k3)))]
        have HR1 := Lib.hid hr
        clear hr
        go_wp2_with fail
        go_ret
        exact ⟨by rw [HR1.out]; rfl, hF⟩
      by_cases k4 : q.limit > 1000
      · have hr : rightT Lib.validD q = 1 := by rw [HR.out, if_pos (.inr (.inr (.inr k4)))]
        have HR1 := Lib.hid hr
        clear hr
        go_wp2_with fail
        go_ret
        exact ⟨by rw [HR1.out]; rfl, hF⟩
      have hok : TOk q := TOk.of H12.out.1 H12.out.2 (by omega) (by omega)
      have hr : rightT Lib.validD q = if q.has = 0 ∧ q.second ≠ emptySt then 3 else if 1024 < (textT q).length then 4 else 0 := by
        rw [HR.out, if_neg (by omega)]
      have HR2 := Lib.hid hr
      have HOK := Lib.hid hok
      clear hr hok
      have hsame : ∀ W, Fr [] wr W → Calls Tryz.prog 69 #[.agg #[.string ⟨q.second.name.toArray⟩, .int .i64 q.second.least, (.slice A2 L2 C2)], .agg #[.string ⟨#[]⟩, .int .i64 0, .slice none 0 0]] W fun e w' => e = .returned (.bool (decide (q.second = emptySt))) ∧ Fr [] W w' := fun W hW =>
        sameS_any q.second emptySt _ _ W ⟨(.slice A2 L2 C2), rfl, (hm2.fr hF).fr hW⟩ (st_zero W) (by have := HOK.out.s2.1; omega)
      have htext : ∀ W, Fr [] wr W → Calls Tryz.prog 66 #[.agg #[.string ⟨q.first.name.toArray⟩, .int .i64 q.first.least, (.slice A1 L1 C1), .string ⟨q.second.name.toArray⟩, .int .i64 q.second.least, (.slice A2 L2 C2), .int .i64 q.has, .int .i64 q.limit]] W fun e w' => e = .returned (.string ⟨(textT q).toArray⟩) ∧ Fr [] W w' := fun W hW =>
        textT_any q _ W (hGr.frn hW h8r) (Nat.le_trans h8r hW.size) ⟨(.slice A1 L1 C1), (.slice A2 L2 C2), rfl, (hm1.fr hF).fr hW, (hm2.fr hF).fr hW⟩ HOK.out
      by_cases k5 : q.has = 0
      · have hh1 : (q.has == 0) = true := by rw [k5]; rfl
        obtain ⟨e0, he0⟩ : ∃ e0, decide (q.second = emptySt) = e0 := ⟨_, rfl⟩
        rw [he0] at hsame
        have HE0 := Lib.hid (And.intro k5 he0)
        clear k5 he0
        go_wp2_with fail
        refine (hsame _ (Fr.refl _ _)).mono ?_
        rintro e w6 ⟨rfl, hF6⟩
        cases e0
        · have hr : rightT Lib.validD q = 3 := by rw [HR2.out, if_pos ⟨HE0.out.1, by simpa using HE0.out.2⟩]
          have HR1 := Lib.hid hr
          clear hr
          go_wp2_with fail
          go_ret
          exact ⟨by rw [HR1.out]; rfl, hF.trans hF6⟩
        · have hX6 := hF6.obj hX1 (by simp)
          have hr : rightT Lib.validD q = if 1024 < (textT q).length then 4 else 0 := by rw [HR2.out, if_neg (by rintro ⟨_, h⟩; exact h (by simpa using HE0.out.2))]
          have HR1 := Lib.hid hr
          clear hr q0 q1 q2 q3 q4 q5 q6 q7
          have q0 := cell_of hX6 0
          have q1 := cell_of hX6 1
          have q2 := cell_of hX6 2
          have q3 := cell_of hX6 3
          have q4 := cell_of hX6 4
          have q5 := cell_of hX6 5
          have q6 := cell_of hX6 6
          have q7 := cell_of hX6 7
          unfold QC at q0 q1 q2 q3 q4 q5 q6 q7
          simp only [List.getElem?_toArray, List.getElem?_cons_zero, List.getElem?_cons_succ] at q0 q1 q2 q3 q4 q5 q6 q7
          go_wp2_with fail
          refine (htext _ hF6).mono ?_
          rintro e w7 ⟨rfl, hF7⟩
          have hF9 := (hF.trans hF6).trans hF7
          obtain ⟨Y, hY⟩ : ∃ Y : ByteArray, (⟨(textT q).toArray⟩ : ByteArray) = Y := ⟨_, rfl⟩
          have hYs : Y.size = (textT q).length := by rw [← hY]; simp [ByteArray.size]
          rw [hY]
          rw [← hYs] at HR1
          by_cases k6 : 1024 < Y.size
          · have k7 : (Y.size : Int) > 1024 := by omega
            have HR3 := Lib.hid (by rw [HR1.out, if_pos k6] : rightT Lib.validD q = 4)
            clear k6 hYs
            go_wp2_with fail
            go_ret
            exact ⟨by rw [HR3.out]; rfl, hF9⟩
          · have k7 : ¬ (Y.size : Int) > 1024 := by omega
            have HR3 := Lib.hid (by rw [HR1.out, if_neg k6] : rightT Lib.validD q = 0)
            clear k6 hYs
            go_wp2_with fail
            go_ret
            exact ⟨by rw [HR3.out]; rfl, hF9⟩
      · have hh1 : (q.has == 0) = false := by simpa using k5
        have hr : rightT Lib.validD q = if 1024 < (textT q).length then 4 else 0 := by rw [HR2.out, if_neg (by rintro ⟨h, _⟩; exact k5 h)]
        have HR1 := Lib.hid hr
        clear hr k5
        go_wp2_with fail
        refine (htext _ (Fr.refl _ _)).mono ?_
        rintro e w7 ⟨rfl, hF7⟩
        have hF9 := hF.trans hF7
        obtain ⟨Y, hY⟩ : ∃ Y : ByteArray, (⟨(textT q).toArray⟩ : ByteArray) = Y := ⟨_, rfl⟩
        have hYs : Y.size = (textT q).length := by rw [← hY]; simp [ByteArray.size]
        rw [hY]
        rw [← hYs] at HR1
        by_cases k6 : 1024 < Y.size
        · have k7 : (Y.size : Int) > 1024 := by omega
          have HR3 := Lib.hid (by rw [HR1.out, if_pos k6] : rightT Lib.validD q = 4)
          clear k6 hYs
          go_wp2_with fail
          go_ret
          exact ⟨by rw [HR3.out]; rfl, hF9⟩
        · have k7 : ¬ (Y.size : Int) > 1024 := by omega
          have HR3 := Lib.hid (by rw [HR1.out, if_neg k6] : rightT Lib.validD q = 0)
          clear k6 hYs
          go_wp2_with fail
          go_ret
          exact ⟨by rw [HR3.out]; rfl, hF9⟩
end Go.Proofs.YtdhmloejgoacaaaGreatDoor
