/- Parse, Print: whole. -/
import Derived.Test.YtaniaknphjnlkaaGreatDoorLqRight3
import Derived.Test.YtaniaknphjnlkaaGreatDoorLqRRight
namespace Go.Proofs.YtaniaknphjnlkaaGreatDoor
open Go.RowKit Go.Bl Go.Lq

theorem parse_all (s : ByteArray) {w : World} (hG : GV w) (h8 : 8 ≤ w.heap.size) : Calls Tryz.prog 6 #[.string s] w (ParsePost s w) :=
  parse_any (fun w v q hG h8 hv => right_any q v w hG h8 hv) s hG h8
/-- What Print says. -/
def printP (V : Bs → Bool) (q : Qy) : Bs × Int := if rightQ V q ≠ 0 then ([], rightQ V q) else (textP q, 0)
theorem right_textOK {V : Bs → Bool} {q : Qy} (h : rightQ V q = 0) : TextOK q := by
  unfold rightQ at h
  split at h
  · rename_i h1
    exact absurd h h1
  · rename_i h1
    have h1 : rightM V q.mat = 0 := by simpa using h1
    split at h
    · cases h
    · rename_i h2
      split at h
      · cases h
      · rename_i h3
        split at h
        · rename_i h4
          exact absurd h h4
        · rename_i h4
          have h4 : wrongTs V q.tests = 0 := by simpa using h4
          have hk := wrongTs_ok h4
          exact ⟨rightM_short h1, ⟨by omega, hk.1⟩, hk.2, by omega, by omega⟩
set_option maxRecDepth 100000 in
set_option maxHeartbeats 800000 in
theorem print_any (q : Qy) (v : Value) (w : World) (hG : GV w) (h8 : 8 ≤ w.heap.size) (hv : QyV w v q) :
    Calls Tryz.prog 9 #[v] w fun e w' => e = .returned (.tuple #[.string ⟨(printP Lib.validD q).1.toArray⟩, .int .i64 (printP Lib.validD q).2]) ∧ Fr [] w w' := by
  obtain ⟨c2, c4, rfl, hm2, hm4⟩ := id hv
  obtain ⟨WQ, hWQ⟩ : ∃ WQ, w.alloc (.cells #[c2, .int .i64 q.level, c4, .int .i64 q.limit] 24) = WQ := ⟨_, rfl⟩
  have hFQ : Fr [] w WQ := by rw [← hWQ]; exact (Fr.refl _ _).alloc _
  have hQB : WQ.heap[w.heap.size]? = some (.cells #[c2, .int .i64 q.level, c4, .int .i64 q.limit] 24 (0, 0)) := by rw [← hWQ]; exact heap_alloc w _
  have q0 := cell_of hQB 0
  have q1 := cell_of hQB 1
  have q2 := cell_of hQB 2
  have q3 := cell_of hQB 3
  simp only [List.getElem?_toArray, List.getElem?_cons_zero, List.getElem?_cons_succ] at q0 q1 q2 q3
  have hr := right_any q _ WQ (hG.below (B := 8) (hFQ.below h8 (by simp)) (by omega)) (by have := hFQ.size; omega) (hv.fr hFQ)
  obtain ⟨z, hz⟩ : ∃ z, rightQ Lib.validD q = z := ⟨_, rfl⟩
  rw [hz] at hr
  have HQ := Lib.hid (And.intro hFQ hQB)
  clear hFQ hQB hm2 hm4
  by_cases h0 : z = 0
  · subst h0
    have hp : printP Lib.validD q = (textP q, 0) := by unfold printP; rw [hz, if_neg (by simp)]
    rw [hp]
    have ht : ∀ w', Fr [] w w' → Calls Tryz.prog 28 #[.agg #[c2, .int .i64 q.level, c4, .int .i64 q.limit]] w' fun e w'' => e = .returned (.string ⟨(textP q).toArray⟩) ∧ Fr [] w' w'' := fun w' hF =>
      text_any q (right_textOK hz) _ w' (hG.below (B := 8) (hF.below h8 (by simp)) (by omega)) (by have := hF.size; omega) (hv.fr hF)
    obtain ⟨Z, hZ⟩ : ∃ Z : ByteArray, ⟨(textP q).toArray⟩ = Z := ⟨_, rfl⟩
    rw [hZ] at ht ⊢
    have HT := Lib.hid ht
    clear hp hz hZ hv ht
    go_enter Tryz.func9, Tryz.ntmps9
    go_wp2_with fail
    (try rw [hWQ])
    go_wp2_with fail
    refine hr.mono ?_
    rintro e w1 ⟨rfl, hF⟩
    have h2 := HT.out w1 (HQ.out.1.trans hF)
    have hb1 := hF.obj HQ.out.2 (by simp)
    have d0 := cell_of hb1 0
    have d1 := cell_of hb1 1
    have d2 := cell_of hb1 2
    have d3 := cell_of hb1 3
    simp only [List.getElem?_toArray, List.getElem?_cons_zero, List.getElem?_cons_succ] at d0 d1 d2 d3
    have HF := Lib.hid (HQ.out.1.trans hF)
    clear hF hr hb1 hWQ q0 q1 q2 q3
    go_wp2_with fail
    refine h2.mono ?_
    rintro e w2 ⟨rfl, hF2⟩
    go_wp2_with fail
    go_ret2
    exact ⟨rfl, HF.out.trans hF2⟩
  · have hp : printP Lib.validD q = ([], z) := by unfold printP; rw [hz, if_pos h0]
    rw [hp]
    have e1 : (z == 0) = false := by simpa using h0
    clear hp hz h0 hv
    go_enter Tryz.func9, Tryz.ntmps9
    go_wp2_with fail
    (try rw [hWQ])
    go_wp2_with fail
    refine hr.mono ?_
    rintro e w1 ⟨rfl, hF⟩
    go_wp2_with fail
    go_ret2
    exact ⟨rfl, HQ.out.1.trans hF⟩
end Go.Proofs.YtaniaknphjnlkaaGreatDoor
namespace Go.Proofs.YtaniaknphjnlkaaGreatDoor
open Go.RowKit Go.Bl Go.Lq

set_option maxRecDepth 100000 in
set_option maxHeartbeats 800000 in
theorem printR_any (q : Qy) (v : Value) (w : World) (hG : GV w) (h8 : 8 ≤ w.heap.size) (hv : QyV w v q) :
    Calls Tryz.prog 11 #[v] w fun e w' => e = .returned (.tuple #[.string ⟨(printP Lib.validD q).1.toArray⟩, .int .i64 (printP Lib.validD q).2]) ∧ Fr [] w w' := by
  obtain ⟨c2, c4, rfl, hm2, hm4⟩ := id hv
  obtain ⟨WQ, hWQ⟩ : ∃ WQ, w.alloc (.cells #[c2, .int .i64 q.level, c4, .int .i64 q.limit] 24) = WQ := ⟨_, rfl⟩
  have hFQ : Fr [] w WQ := by rw [← hWQ]; exact (Fr.refl _ _).alloc _
  have hQB : WQ.heap[w.heap.size]? = some (.cells #[c2, .int .i64 q.level, c4, .int .i64 q.limit] 24 (0, 0)) := by rw [← hWQ]; exact heap_alloc w _
  have q0 := cell_of hQB 0
  have q1 := cell_of hQB 1
  have q2 := cell_of hQB 2
  have q3 := cell_of hQB 3
  simp only [List.getElem?_toArray, List.getElem?_cons_zero, List.getElem?_cons_succ] at q0 q1 q2 q3
  have hr := rightR_any q _ WQ (hG.below (B := 8) (hFQ.below h8 (by simp)) (by omega)) (by have := hFQ.size; omega) (hv.fr hFQ)
  obtain ⟨z, hz⟩ : ∃ z, rightQ Lib.validD q = z := ⟨_, rfl⟩
  rw [hz] at hr
  have HQ := Lib.hid (And.intro hFQ hQB)
  clear hFQ hQB hm2 hm4
  by_cases h0 : z = 0
  · subst h0
    have hp : printP Lib.validD q = (textP q, 0) := by unfold printP; rw [hz, if_neg (by simp)]
    rw [hp]
    have ht : ∀ w', Fr [] w w' → Calls Tryz.prog 29 #[.agg #[c2, .int .i64 q.level, c4, .int .i64 q.limit]] w' fun e w'' => e = .returned (.string ⟨(textP q).toArray⟩) ∧ Fr [] w' w'' := fun w' hF =>
      textQR_any q (right_textOK hz) _ w' (hG.below (B := 8) (hF.below h8 (by simp)) (by omega)) (by have := hF.size; omega) (hv.fr hF)
    obtain ⟨Z, hZ⟩ : ∃ Z : ByteArray, ⟨(textP q).toArray⟩ = Z := ⟨_, rfl⟩
    rw [hZ] at ht ⊢
    have HT := Lib.hid ht
    clear hp hz hZ hv ht
    go_enter Tryz.func11, Tryz.ntmps11
    go_wp2_with fail
    (try rw [hWQ])
    go_wp2_with fail
    refine hr.mono ?_
    rintro e w1 ⟨rfl, hF⟩
    have h2 := HT.out w1 (HQ.out.1.trans hF)
    have hb1 := hF.obj HQ.out.2 (by simp)
    have d0 := cell_of hb1 0
    have d1 := cell_of hb1 1
    have d2 := cell_of hb1 2
    have d3 := cell_of hb1 3
    simp only [List.getElem?_toArray, List.getElem?_cons_zero, List.getElem?_cons_succ] at d0 d1 d2 d3
    have HF := Lib.hid (HQ.out.1.trans hF)
    clear hF hr hb1 hWQ q0 q1 q2 q3
    go_wp2_with fail
    refine h2.mono ?_
    rintro e w2 ⟨rfl, hF2⟩
    go_wp2_with fail
    go_ret2
    exact ⟨rfl, HF.out.trans hF2⟩
  · have hp : printP Lib.validD q = ([], z) := by unfold printP; rw [hz, if_pos h0]
    rw [hp]
    have e1 : (z == 0) = false := by simpa using h0
    clear hp hz h0 hv
    go_enter Tryz.func11, Tryz.ntmps11
    go_wp2_with fail
    (try rw [hWQ])
    go_wp2_with fail
    refine hr.mono ?_
    rintro e w1 ⟨rfl, hF⟩
    go_wp2_with fail
    go_ret2
    exact ⟨rfl, HQ.out.1.trans hF⟩
end Go.Proofs.YtaniaknphjnlkaaGreatDoor
namespace Go.Proofs.YtaniaknphjnlkaaGreatDoor
open Go.RowKit Go.Bl Go.Lq

theorem wrongM_fine {V : Bs → Bool} {l : List Mt} (h : wrongM V l = 0) : ∀ x ∈ l, keyP x.key = true ∧ 1 ≤ x.op ∧ x.op ≤ 4 := by
  induction l with
  | nil => intro x hx; cases hx
  | cons m l ih =>
    rw [wrongM_cons] at h
    split at h
    · cases h
    · rename_i ho
      split at h
      · cases h
      · rename_i hk
        split at h
        · cases h
        · intro x hx
          rcases List.mem_cons.1 hx with rfl | hx
          · exact ⟨by simpa using hk, by omega, by omega⟩
          · exact ih h x hx
theorem rightM_fine {V : Bs → Bool} {l : List Mt} (h : rightM V l = 0) : l.length ≤ 8 ∧ ∀ x ∈ l, keyP x.key = true ∧ 1 ≤ x.op ∧ x.op ≤ 4 := by
  unfold rightM at h
  split at h
  · cases h
  · exact ⟨by omega, wrongM_fine h⟩
theorem wrongTs_fine {V : Bs → Bool} {l : List Mt} (h : wrongTs V l = 0) : ∀ m ∈ l, (m.key ≠ [] ∧ keyP m.key = true ∧ 1 ≤ m.op ∧ m.op ≤ 4) ∨ (m.key = [] ∧ (m.op = 3 ∨ m.op = 4)) := by
  induction l with
  | nil => intro x hx; cases hx
  | cons x xs ih =>
    unfold wrongTs at h
    split at h
    · rename_i h1
      exact absurd h h1
    · rename_i h1
      have h1 : wrongT V x = 0 := by simpa using h1
      intro m hm
      rcases List.mem_cons.1 hm with rfl | hm
      · unfold wrongT at h1
        split at h1
        · rename_i hk
          have := (rightM_fine h1).2 m (by simp)
          exact .inl ⟨hk, this.1, this.2.1, this.2.2⟩
        · rename_i hk
          have hk : m.key = [] := by simpa using hk
          split at h1
          · cases h1
          · rename_i ho
            exact .inr ⟨hk, by omega⟩
      · exact ih h m hm
theorem right_fine {V : Bs → Bool} {q : Qy} (h : rightQ V q = 0) : Fine q ∧ q.mat.length ≤ 8 ∧ q.tests.length ≤ 8 ∧ (textP q).length ≤ 1024 := by
  unfold rightQ at h
  split at h
  · rename_i h1
    exact absurd h h1
  · rename_i h1
    have h1 : rightM V q.mat = 0 := by simpa using h1
    split at h
    · cases h
    · rename_i h2
      split at h
      · cases h
      · rename_i h3
        split at h
        · rename_i h4
          exact absurd h h4
        · rename_i h4
          have h4 : wrongTs V q.tests = 0 := by simpa using h4
          split at h
          · cases h
          · rename_i h5
            exact ⟨⟨(rightM_fine h1).2, wrongTs_fine h4, by omega, by omega⟩, (rightM_fine h1).1, by omega, by omega⟩
theorem parse_back {V : Bs → Bool} {q : Qy} (h : rightQ V q = 0) : parseP V (textP q) = (q, 0, 0) := by
  have hf := right_fine h
  unfold parseP
  rw [if_neg (by omega), read_text hf.1]
  dsimp only
  rw [h, if_neg (by simp)]
theorem parse_cases (V : Bs → Bool) (l : Bs) : ((parseP V l).2.1 ≠ 0 ∧ (parseP V l).1 = zeroQ) ∨ ((parseP V l).2.1 = 0 ∧ rightQ V (parseP V l).1 = 0) := by
  unfold parseP
  split
  · exact .inl ⟨by simp, rfl⟩
  · split
    · exact .inl ⟨by simp, rfl⟩
    · split
      · rename_i h
        exact .inl ⟨h, rfl⟩
      · rename_i h
        exact .inr ⟨rfl, by simpa using h⟩
end Go.Proofs.YtaniaknphjnlkaaGreatDoor
