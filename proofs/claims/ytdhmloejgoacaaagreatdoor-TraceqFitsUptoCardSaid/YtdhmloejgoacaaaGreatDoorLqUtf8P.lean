/- Right UTF-8 as the reference tells it, plain: against the library's validD. -/
import Derived.Lib.ValidLaws
import Derived.Test.YtdhmloejgoacaaaGreatDoorLqPure
set_option linter.unusedVariables false
set_option linter.unusedSimpArgs false
namespace Go.Lq
open Go.Lib
def leadN (c : Nat) : Nat := if 194 ≤ c ∧ c ≤ 223 then 1 else if 224 ≤ c ∧ c ≤ 239 then 2 else if 240 ≤ c ∧ c ≤ 244 then 3 else 0
def leadLo (c : Nat) : Nat := if c = 224 then 160 else if c = 240 then 144 else 128
def leadHi (c : Nat) : Nat := if c = 237 then 159 else if c = 244 then 143 else 191
theorem lead_tab : ∀ c : Fin 256, 128 ≤ c.val → (leadN c.val = 0 ∧ firstT c.val % 8 ≠ 2 ∧ firstT c.val % 8 ≠ 3 ∧ firstT c.val % 8 ≠ 4) ∨
    (leadN c.val ≠ 0 ∧ firstT c.val % 8 = leadN c.val + 1 ∧ accLo (firstT c.val / 16) = leadLo c.val ∧ accHi (firstT c.val / 16) = leadHi c.val) := by decide +kernel
theorem leadN_le (c : Nat) : leadN c ≤ 3 := by unfold leadN; repeat' split
                                               all_goals omega
def okAt (l : Bs) (c j : Nat) : Prop := (if j = 1 then leadLo c else 128) ≤ (l.getD j 0).toNat ∧ (l.getD j 0).toNat ≤ (if j = 1 then leadHi c else 191)
instance (l : Bs) (c j : Nat) : Decidable (okAt l c j) := by unfold okAt; infer_instance
def badU (l : Bs) (c : Nat) : Prop := leadN c = 0 ∨ l.length ≤ leadN c ∨ (1 ≤ leadN c ∧ ¬ okAt l c 1) ∨ (2 ≤ leadN c ∧ ¬ okAt l c 2) ∨ (3 ≤ leadN c ∧ ¬ okAt l c 3)
theorem valid_lead (l : Bs) (c : Nat) (hc : c = (l.getD 0 0).toNat) (hne : l ≠ []) (h0 : 128 ≤ c) :
    (badU l c → validD l = false) ∧ (¬ badU l c → validD l = validD (l.drop (leadN c + 1))) := by
  subst hc
  rw [validD_lead l hne h0]
  have hb : (l.getD 0 0).toNat < 256 := UInt8.toNat_lt _
  have hn3 := leadN_le (l.getD 0 0).toNat
  obtain ⟨c, hc⟩ : ∃ c, (l.getD 0 0).toNat = c := ⟨_, rfl⟩
  rw [hc] at hb h0 hn3 ⊢
  rcases lead_tab ⟨c, hb⟩ h0 with ⟨h1, h2, h3, h4⟩ | ⟨h1, h2, h3, h4⟩
  · simp only at h1 h2 h3 h4
    refine ⟨fun _ => ?_, fun h => absurd (.inl h1) h⟩
    unfold checkN
    rw [if_neg h2, if_neg h3, if_neg h4]
  · simp only at h1 h2 h3 h4
    rw [h2, h3, h4]
    unfold checkN badU okAt
    have e : leadN c = 1 ∨ leadN c = 2 ∨ leadN c = 3 := by omega
    rcases e with e | e | e
    · rw [e]
      simp only [show (1 + 1 = 2) = True from by simp, if_true]
      constructor
      · intro h
        rw [if_pos]
        omega
      · intro h
        rw [if_neg]
        omega
    · rw [e]
      simp only [show (2 + 1 = 2) = False from by simp, show (2 + 1 = 3) = True from by simp, if_true, if_false, show (2 = 1) = False from by simp]
      constructor
      · intro h
        rw [if_pos]
        omega
      · intro h
        rw [if_neg]
        omega
    · rw [e]
      simp only [show (3 + 1 = 2) = False from by simp, show (3 + 1 = 3) = False from by simp, show (3 + 1 = 4) = True from by simp, if_true, if_false, show (2 = 1) = False from by simp, show (3 = 1) = False from by simp]
      constructor
      · intro h
        rw [if_pos]
        omega
      · intro h
        rw [if_neg]
        omega
theorem utf_bad {l : Bs} {c : Nat} (hc : c = (l.getD 0 0).toNat) (hne : l ≠ []) (h0 : 128 ≤ c) (h : leadN c = 0) : validD l = false := by
  exact (valid_lead l c hc hne h0).1 (.inl h)
theorem utf_short {l : Bs} {c : Nat} (hc : c = (l.getD 0 0).toNat) (hne : l ≠ []) (h0 : 128 ≤ c) (h : l.length ≤ leadN c) : validD l = false := by
  exact (valid_lead l c hc hne h0).1 (.inr (.inl h))
theorem utf_cont {l : Bs} {c : Nat} (hc : c = (l.getD 0 0).toNat) (hne : l ≠ []) (h0 : 128 ≤ c) (j : Nat) (h1 : 1 ≤ j) (h2 : j ≤ leadN c) (h : ¬ okAt l c j) : validD l = false := by
  have hn3 := leadN_le c
  apply (valid_lead l c hc hne h0).1
  have e : j = 1 ∨ j = 2 ∨ j = 3 := by omega
  rcases e with rfl | rfl | rfl
  · exact .inr (.inr (.inl ⟨h2, h⟩))
  · exact .inr (.inr (.inr (.inl ⟨h2, h⟩)))
  · exact .inr (.inr (.inr (.inr ⟨h2, h⟩)))
theorem utf_all {l : Bs} {c : Nat} (hc : c = (l.getD 0 0).toNat) (hne : l ≠ []) (h0 : 128 ≤ c) (h : leadN c ≠ 0) (hl : leadN c < l.length) (hj : ∀ j, 1 ≤ j → j ≤ leadN c → okAt l c j) : validD l = validD (l.drop (leadN c + 1)) := by
  apply (valid_lead l c hc hne h0).2
  rintro (h | h | ⟨h, g⟩ | ⟨h, g⟩ | ⟨h, g⟩)
  · contradiction
  · omega
  · exact g (hj 1 (by omega) h)
  · exact g (hj 2 (by omega) h)
  · exact g (hj 3 (by omega) h)
end Go.Lq
