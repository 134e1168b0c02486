/- What can be is fine; what is written is read again as it was (plain). -/
import Derived.Test.YtaniaknphjnlkaaGreatDoorLqPrint
namespace Go.Proofs.YtaniaknphjnlkaaGreatDoor
open Go.RowKit Go.Bl Go.Lq

theorem wrongM_fine {V : Bs → Bool} {l : List Mt} (h : wrongM V l = 0) : ∀ x ∈ l, keyP x.key = true ∧ 1 ≤ x.op ∧ x.op ≤ 4 := by
  induction l with
  | nil => intro x hx; cases hx
  | cons m l ih =>
    rw [wrongM_cons] at h
    split at h
    · cases h
    · rename_i ho
      split at h
      · cases h
      · rename_i hk
        split at h
        · cases h
        · intro x hx
          rcases List.mem_cons.1 hx with rfl | hx
          · exact ⟨by simpa using hk, by omega, by omega⟩
          · exact ih h x hx
theorem rightM_fine {V : Bs → Bool} {l : List Mt} (h : rightM V l = 0) : l.length ≤ 8 ∧ ∀ x ∈ l, keyP x.key = true ∧ 1 ≤ x.op ∧ x.op ≤ 4 := by
  unfold rightM at h
  split at h
  · cases h
  · exact ⟨by omega, wrongM_fine h⟩
theorem wrongTs_fine {V : Bs → Bool} {l : List Mt} (h : wrongTs V l = 0) : ∀ m ∈ l, (m.key ≠ [] ∧ keyP m.key = true ∧ 1 ≤ m.op ∧ m.op ≤ 4) ∨ (m.key = [] ∧ (m.op = 3 ∨ m.op = 4)) := by
  induction l with
  | nil => intro x hx; cases hx
  | cons x xs ih =>
    unfold wrongTs at h
    split at h
    · rename_i h1
      exact absurd h h1
    · rename_i h1
      have h1 : wrongT V x = 0 := by simpa using h1
      intro m hm
      rcases List.mem_cons.1 hm with rfl | hm
      · unfold wrongT at h1
        split at h1
        · rename_i hk
          have := (rightM_fine h1).2 m (by simp)
          exact .inl ⟨hk, this.1, this.2.1, this.2.2⟩
        · rename_i hk
          have hk : m.key = [] := by simpa using hk
          split at h1
          · cases h1
          · rename_i ho
            exact .inr ⟨hk, by omega⟩
      · exact ih h m hm
theorem right_fine {V : Bs → Bool} {q : Qy} (h : rightQ V q = 0) : Fine q ∧ q.mat.length ≤ 8 ∧ q.tests.length ≤ 8 ∧ (textP q).length ≤ 1024 := by
  unfold rightQ at h
  split at h
  · rename_i h1
    exact absurd h h1
  · rename_i h1
    have h1 : rightM V q.mat = 0 := by simpa using h1
    split at h
    · cases h
    · rename_i h2
      split at h
      · cases h
      · rename_i h3
        split at h
        · rename_i h4
          exact absurd h h4
        · rename_i h4
          have h4 : wrongTs V q.tests = 0 := by simpa using h4
          split at h
          · cases h
          · rename_i h5
            exact ⟨⟨(rightM_fine h1).2, wrongTs_fine h4, by omega, by omega⟩, (rightM_fine h1).1, by omega, by omega⟩
theorem parse_back {V : Bs → Bool} {q : Qy} (h : rightQ V q = 0) : parseP V (textP q) = (q, 0, 0) := by
  have hf := right_fine h
  unfold parseP
  rw [if_neg (by omega), read_text hf.1]
  dsimp only
  rw [h, if_neg (by simp)]
theorem parse_cases (V : Bs → Bool) (l : Bs) : ((parseP V l).2.1 ≠ 0 ∧ (parseP V l).1 = zeroQ) ∨ ((parseP V l).2.1 = 0 ∧ rightQ V (parseP V l).1 = 0) := by
  unfold parseP
  split
  · exact .inl ⟨by simp, rfl⟩
  · split
    · exact .inl ⟨by simp, rfl⟩
    · split
      · rename_i h
        exact .inl ⟨h, rfl⟩
      · rename_i h
        exact .inr ⟨rfl, by simpa using h⟩
end Go.Proofs.YtaniaknphjnlkaaGreatDoor
