/- Atoi of digits (plain). -/
import Derived.Test.YtdhmloejgoacaaaGreatDoorMw04
import Derived.Lib.AtoiAll
set_option linter.unusedVariables false
set_option linter.unusedSimpArgs false
namespace Go.Lq
open Go.Lib

def foldN (acc : Nat) (d : Bs) : Nat := d.foldl (fun n c => n * 10 + (c.toNat - 48)) acc
theorem foldN_ge (d : Bs) : ∀ acc, acc ≤ foldN acc d := by
  induction d with
  | nil => intro acc; exact Nat.le_refl _
  | cons c cs ih =>
    intro acc
    have := ih (acc * 10 + (c.toNat - 48))
    show acc ≤ foldN (acc * 10 + (c.toNat - 48)) cs
    omega
theorem parse_digits (d : Bs) : ∀ acc, acc < 18446744073709551616 → d.all isDigit = true → (parseUint10 acc d = .ok (foldN acc d) ∧ foldN acc d < 18446744073709551616) ∨ (parseUint10 acc d = .range ∧ 18446744073709551616 ≤ foldN acc d) := by
  induction d with
  | nil => intro acc h _; exact .inl ⟨rfl, h⟩
  | cons c cs ih =>
    intro acc h hd
    simp only [List.all_cons, Bool.and_eq_true] at hd
    have hc : 48 ≤ c.toNat ∧ c.toNat ≤ 57 := by
      have := hd.1
      simp only [isDigit, Bool.and_eq_true, decide_eq_true_eq] at this
      exact this
    unfold parseUint10
    rw [if_pos hc]
    have hf : foldN acc (c :: cs) = foldN (acc * 10 + (c.toNat - 48)) cs := rfl
    have hg := foldN_ge cs (acc * 10 + (c.toNat - 48))
    rw [hf]
    by_cases h1 : 1844674407370955162 ≤ acc
    · rw [if_pos h1]
      exact .inr ⟨rfl, by omega⟩
    · rw [if_neg h1]
      by_cases h2 : 18446744073709551616 ≤ acc * 10 + (c.toNat - 48)
      · rw [if_pos h2]
        exact .inr ⟨rfl, by omega⟩
      · rw [if_neg h2]
        exact ih _ (by omega) hd.2
theorem atoi_digits {d : Bs} (hd : d.all isDigit = true) : (d = [] ∧ atoiAll d = atoiAll []) ∨ (d ≠ [] ∧ atoiAll d = .ok (numOf d : Int)) ∨ (d ≠ [] ∧ atoiAll d = .range ∧ 9223372036854775808 ≤ numOf d) := by
  cases d with
  | nil => exact .inl ⟨rfl, rfl⟩
  | cons c cs =>
    right
    have hc : 48 ≤ c.toNat ∧ c.toNat ≤ 57 := by
      simp only [List.all_cons, Bool.and_eq_true] at hd
      have := hd.1
      simp only [isDigit, Bool.and_eq_true, decide_eq_true_eq] at this
      exact this
    have hn : ¬ (c.toNat = 43 ∨ c.toNat = 45) := by omega
    have hn2 : ¬ c.toNat = 45 := by omega
    unfold atoiAll
    dsimp only
    rw [if_neg hn]
    unfold parseMag
    rw [if_neg (by simp)]
    have hN : numOf (c :: cs) = foldN 0 (c :: cs) := rfl
    rcases parse_digits (c :: cs) 0 (by omega) hd with ⟨h, h2⟩ | ⟨h, h2⟩
    · rw [h]
      dsimp only
      by_cases h3 : 9223372036854775808 ≤ foldN 0 (c :: cs)
      · rw [if_pos ⟨hn2, h3⟩]
        exact .inr ⟨by simp, rfl, by omega⟩
      · rw [if_neg (by omega), if_neg (by omega), if_neg hn2, hN]
        exact .inl ⟨by simp, rfl⟩
    · rw [h]
      exact .inr ⟨by simp, rfl, by omega⟩
theorem trim_digits (m : Bs) : m.dropWhile (([48, 49, 50, 51, 52, 53, 54, 55, 56, 57] : Bs).contains ·) = m.dropWhile isDigit := by
  congr 1
  funext c
  revert c
  have : ∀ n : Fin 256, (([48, 49, 50, 51, 52, 53, 54, 55, 56, 57] : Bs).contains (UInt8.ofNat n.val)) = isDigit (UInt8.ofNat n.val) := by decide +kernel
  intro c
  have h1 := this ⟨c.toNat, c.toNat_lt⟩
  rwa [UInt8.ofNat_toNat] at h1
end Go.Lq
