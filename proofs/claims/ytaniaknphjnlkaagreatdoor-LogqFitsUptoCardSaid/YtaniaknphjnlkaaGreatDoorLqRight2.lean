/- logq.wrong. -/
import Derived.Test.YtaniaknphjnlkaaGreatDoorLqWrong
namespace Go.Proofs.YtaniaknphjnlkaaGreatDoor
open Go.RowKit Go.Bl Go.Lq

set_option maxRecDepth 100000 in
set_option maxHeartbeats 800000 in
theorem wrongT_any (m : Mt) (w : World) (hG : GV w) (h8 : 8 ≤ w.heap.size) :
    Calls Tryz.prog 31 #[.agg #[.int .i64 m.op, .string ⟨m.key.toArray⟩, .string ⟨m.val.toArray⟩]] w fun e w' => e = .returned (.int .i64 (wrongT Lib.validD m)) ∧ Fr [] w w' := by
  obtain ⟨op, ho0⟩ : ∃ op, m.op = op := ⟨_, rfl⟩
  obtain ⟨K, hK⟩ : ∃ K : ByteArray, ⟨m.key.toArray⟩ = K := ⟨_, rfl⟩
  obtain ⟨V, hV⟩ : ∃ V : ByteArray, ⟨m.val.toArray⟩ = V := ⟨_, rfl⟩
  have hKe := empty_iff K
  have hKl : K.data.toList = m.key := by rw [← hK]
  have hVl : V.data.toList = m.val := by rw [← hV]
  rw [hKl] at hKe
  rw [hK, hV, ho0]
  have hF1 : Fr [] w (w.alloc (.cells #[.int .i64 op, .string K, .string V] 56)) := (Fr.refl _ _).alloc _
  have hF2 := hF1.alloc (.cells #[.int .i64 op, .string K, .string V] 56)
  have hG1 := hG.below (B := 8) (hF1.below h8 (by simp)) (by omega)
  have hG2 := hG.below (B := 8) (hF2.below h8 (by simp)) (by omega)
  by_cases hk : m.key = []
  · rw [decide_eq_true hk] at hKe
    by_cases ho : op ≠ 3 ∧ op ≠ 4
    · have hr : wrongT Lib.validD m = 42 := by unfold wrongT; rw [if_neg (by simp [hk]), ho0, if_pos ho]
      rw [hr]
      have q1 : (op == 3) = false := by simpa using ho.1
      have q2 : (op == 4) = false := by simpa using ho.2
      have q3 : (op != 3) = true := by simpa using ho.1
      have q4 : (op != 4) = true := by simpa using ho.2
      have q5 : ¬ op = 3 := ho.1
      have q6 : ¬ op = 4 := ho.2
      have HF := Lib.hid hF1
      clear hr ho ho0 hk hK hV hKl hVl hF1 hF2
      go_enter Tryz.func31, Tryz.ntmps31
      go_wp2
      go_ret
      exact ⟨rfl, HF.out⟩
    · have hv := value_any V _ hG1
      rw [hVl] at hv
      have hr : wrongT Lib.validD m = if !valueP Lib.validD m.val then 41 else 0 := by unfold wrongT; rw [if_neg (by simp [hk]), ho0, if_neg ho]
      rw [hr]
      obtain ⟨b, hb⟩ : ∃ b, valueP Lib.validD m.val = b := ⟨_, rfl⟩
      rw [hb] at hv ⊢
      have HF := Lib.hid hF1
      have ho2 : op = 3 ∨ op = 4 := by omega
      clear hr hb ho0 hk hK hV hKl hVl hF1 hF2 ho
      rcases ho2 with rfl | rfl
      · skip
        clear hG1 hG2
        go_enter Tryz.func31, Tryz.ntmps31
        go_wp2_with fail
        refine hv.mono ?_
        rintro e w' ⟨rfl, hF⟩
        cases b
        · go_wp2
          go_ret
          exact ⟨rfl, HF.out.trans hF⟩
        · go_wp2
          go_ret
          exact ⟨rfl, HF.out.trans hF⟩
      · skip
        clear hG1 hG2
        go_enter Tryz.func31, Tryz.ntmps31
        go_wp2_with fail
        refine hv.mono ?_
        rintro e w' ⟨rfl, hF⟩
        cases b
        · go_wp2
          go_ret
          exact ⟨rfl, HF.out.trans hF⟩
        · go_wp2
          go_ret
          exact ⟨rfl, HF.out.trans hF⟩
  · rw [decide_eq_false hk] at hKe
    have hB := heap_alloc (w.alloc (.cells #[.int .i64 op, .string K, .string V] 56)) (.cells #[.int .i64 op, .string K, .string V] 56)
    rw [size_alloc'] at hB
    have hrm := rightMatch_any [m] (.slice (some ⟨w.heap.size + 1, 0, none⟩) 1 1) _ hG2 (by have := hF2.size; omega) ⟨_, _, rfl, by simp, fun i hi => ⟨_, rfl, by
      obtain rfl : i = 0 := by simpa using hi
      refine ⟨?_, ?_, ?_⟩
      · rw [add_at', cell_of hB, ← ho0]; rfl
      · rw [add_at', cell_of hB, ← hK]; rfl
      · rw [add_at', cell_of hB, ← hV]; rfl⟩⟩
    have hr : wrongT Lib.validD m = rightM Lib.validD [m] := by unfold wrongT; rw [if_pos hk]
    rw [hr]
    obtain ⟨ans, hans⟩ : ∃ ans, rightM Lib.validD [m] = ans := ⟨_, rfl⟩
    rw [hans] at hrm ⊢
    have HF := Lib.hid hF2
    clear hr ho0 hk hK hV hKl hVl hF1 hF2 hB hans
    go_enter Tryz.func31, Tryz.ntmps31
    go_wp2_with fail
    refine hrm.mono ?_
    rintro e w' ⟨rfl, hF⟩
    go_wp2
    go_ret
    exact ⟨rfl, HF.out.trans hF⟩

def WTRel (w : World) (l : List Mt) (iv : Value) (wr : World) : Prop :=
  ∃ k, iv = .int .i64 ((k : Nat) : Int) ∧ k ≤ l.length ∧ Fr [] w wr ∧ wrongTs Lib.validD l = wrongTs Lib.validD (l.drop k)
/-- What can be has short texts. -/
theorem rightM_short {V : Bs → Bool} {l : List Mt} (h : rightM V l = 0) : Short l := by
  unfold rightM at h
  split at h
  · cases h
  · rename_i h8
    refine ⟨by omega, ?_⟩
    clear h8
    induction l with
    | nil => intro m hm; cases hm
    | cons x xs ih =>
      rw [wrongM_cons] at h
      split at h
      · cases h
      · split at h
        · cases h
        · split at h
          · cases h
          · rename_i _ hk hp
            intro m hm
            rcases List.mem_cons.1 hm with rfl | hm
            · have h1 : keyP m.key = true := by simpa using hk
              have h2 : plainP V m.val = true := by simpa using hp
              constructor
              · unfold keyP at h1
                split at h1
                · cases h1
                · simp only [Bool.and_eq_true, decide_eq_true_eq] at h1
                  omega
              · unfold plainP at h2
                simp only [Bool.and_eq_true, decide_eq_true_eq] at h2
                omega
            · exact ih h m hm
theorem wrongTs_ok {V : Bs → Bool} {l : List Mt} (h : wrongTs V l = 0) : (∀ m ∈ l, m.key.length ≤ 1024 ∧ m.val.length ≤ 1024) ∧ ∀ m ∈ l, m.key = [] → m.op = 3 ∨ m.op = 4 := by
  induction l with
  | nil => exact ⟨(fun m hm => by cases hm), (fun m hm => by cases hm)⟩
  | cons x xs ih =>
    unfold wrongTs at h
    split at h
    · rename_i h1
      exact absurd h h1
    · rename_i h1
      have h1 : wrongT V x = 0 := by simpa using h1
      obtain ⟨i1, i2⟩ := ih h
      unfold wrongT at h1
      split at h1
      · rename_i hk
        have hs := rightM_short h1
        exact ⟨fun m hm => by
          rcases List.mem_cons.1 hm with rfl | hm
          · exact hs.2 m (by simp)
          · exact i1 m hm, fun m hm he => by
          rcases List.mem_cons.1 hm with rfl | hm
          · exact absurd he hk
          · exact i2 m hm he⟩
      · rename_i hk
        have hk : x.key = [] := by simpa using hk
        split at h1
        · cases h1
        · rename_i ho
          split at h1
          · cases h1
          · rename_i hv
            have hv : valueP V x.val = true := by simpa using hv
            unfold valueP plainP at hv
            simp only [Bool.and_eq_true, decide_eq_true_eq] at hv
            exact ⟨fun m hm => by
              rcases List.mem_cons.1 hm with rfl | hm
              · exact ⟨by rw [hk]; simp, by omega⟩
              · exact i1 m hm, fun m hm he => by
              rcases List.mem_cons.1 hm with rfl | hm
              · omega
              · exact i2 m hm he⟩
end Go.Proofs.YtaniaknphjnlkaaGreatDoor
