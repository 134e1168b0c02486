/- Buckets: the time that Next tells. -/
import Derived.Test.YtoichcjlfpijeaaQAsksPure
namespace Go.Proofs.Ytoichcjlfpijeaa
open Go.RowKit Go.Bl

theorem fill_at_ge (b : Bk) (now : Int) : now ≤ (fillM b now).at_ ∧ b.at_ ≤ (fillM b now).at_ := by
  unfold fillM
  split
  · omega
  split
  · dsimp only; omega
  split <;> (dsimp only; omega)

/-- At the time told there are so many; one nanosecond ahead there are not. -/
theorem next_law (b : Bk) (ok : b.Ok) (c : Int) (_ : 0 ≤ c) (_ : c ≤ 1000000000) (he : (nextV b c).2 = 0) :
    takeE (fillM b (nextV b c).1) c = 0 ∧ b.at_ ≤ (nextV b c).1 ∧ (nextV b c).1 ≤ 1125899906842624 ∧
    (b.has < c → b.at_ < (nextV b c).1 ∧ takeE (fillM b ((nextV b c).1 - 1)) c = 190) := by
  have hr1 := ok.rate0
  have s1 := ok.has1
  have p0 := ok.part0
  have p1 := ok.part1
  have a0 := ok.at0
  have a1 := ok.at1
  by_cases q1 : b.burst < c ∨ b.has < c ∧ b.rate = 0
  · rw [nextV, if_pos q1] at he; cases he
  by_cases q2 : c ≤ b.has
  · have e : nextV b c = (b.at_, 0) := by rw [nextV, if_neg q1, if_pos q2]
    rw [e]
    have e2 : fillM b b.at_ = b := by rw [fillM, if_pos (by omega)]
    exact ⟨by dsimp only; rw [e2, takeE, if_neg (by omega)], Int.le_refl _, a1, fun h => by omega⟩
  have hr : b.rate ≠ 0 := fun e => q1 (.inr ⟨by omega, e⟩)
  have hb : c ≤ b.burst := by
    by_cases e : b.burst < c
    · exact absurd (.inl e) q1
    · omega
  have hrp : 0 < b.rate := by omega
  by_cases q3 : b.at_ + ((c - b.has) * 1000000000 - b.part + b.rate - 1) / b.rate ≤ 1125899906842624
  · have e : nextV b c = (b.at_ + ((c - b.has) * 1000000000 - b.part + b.rate - 1) / b.rate, 0) := by rw [nextV, if_neg q1, if_neg q2, if_pos q3]
    rw [e]
    dsimp only
    obtain ⟨q, hq⟩ : ∃ q, ((c - b.has) * 1000000000 - b.part + b.rate - 1) / b.rate = q := ⟨_, rfl⟩
    have l1 := (Int.ediv_le_iff_le_mul hrp).1 (Int.le_of_eq hq)
    have l2 : ¬ ((c - b.has) * 1000000000 - b.part + b.rate - 1) / b.rate ≤ q - 1 := by omega
    rw [Int.ediv_le_iff_le_mul hrp] at l2
    have l3 : 0 < q := by
      rw [← hq]
      exact Int.lt_of_lt_of_le (by decide : (0 : Int) < 1) ((Int.le_ediv_iff_mul_le hrp).2 (by omega) : (1 : Int) ≤ _)
    rw [hq] at q3 ⊢
    have m1 : (q - 1) * b.rate = q * b.rate - b.rate := by rw [Int.sub_mul, Int.one_mul]
    refine ⟨?_, by omega, q3, fun _ => ⟨by omega, ?_⟩⟩
    · by_cases hs : ((b.burst - b.has) * 1000000000 - b.part + b.rate - 1) / b.rate ≤ b.at_ + q - b.at_
      · rw [fillM, if_neg (by omega), if_neg hr, if_pos hs, takeE]
        exact if_neg (by dsimp only; omega)
      · rw [fillM, if_neg (by omega), if_neg hr, if_neg hs, takeE]
        refine if_neg ?_
        dsimp only
        have : b.at_ + q - b.at_ = q := by omega
        rw [this]
        omega
    · by_cases z : q = 1
      · have : fillM b (b.at_ + q - 1) = b := by rw [fillM, if_pos (by omega)]
        rw [this, takeE, if_pos (by omega)]
      · have e3 : b.at_ + q - 1 - b.at_ = q - 1 := by omega
        have hs : ¬ ((b.burst - b.has) * 1000000000 - b.part + b.rate - 1) / b.rate ≤ b.at_ + q - 1 - b.at_ := by
          rw [e3, Int.ediv_le_iff_le_mul hrp]
          omega
        rw [fillM, if_neg (by omega), if_neg hr, if_neg hs, takeE]
        refine if_pos ?_
        dsimp only
        rw [e3]
        omega
  · rw [nextV, if_neg q1, if_neg q2, if_neg q3] at he; cases he

theorem nextV_zero (b : Bk) (c : Int) (he : (nextV b c).2 ≠ 0) : (nextV b c).1 = 0 := by
  unfold nextV at he ⊢
  split
  · rfl
  split
  · rename_i h1 h2
    rw [if_neg h1, if_pos h2] at he; exact absurd rfl he
  split
  · rename_i h1 h2 h3
    rw [if_neg h1, if_neg h2, if_pos h3] at he; exact absurd rfl he
  · rfl

theorem nextR_zero (T : ByteArray → Option Bk) (s : ByteArray) (c now : Int) (he : (nextR T s c now).2 ≠ 0) : (nextR T s c now).1 = 0 := by
  unfold nextR at he ⊢
  split
  · rename_i hg
    rw [if_pos hg] at he
    split
    · rfl
    · rename_i b hb
      rw [hb] at he
      exact nextV_zero _ _ he
  · rfl

/-- What the law asks of a table. -/
theorem next_table (T : ByteArray → Option Bk) (okT : ∀ s b, T s = some b → b.Ok) (s : ByteArray) (c now : Int) (he : (nextR T s c now).2 = 0) :
    takeR (fillT T s c now) s c (nextR T s c now).1 = 0 ∧
    (tokV (fillT T s c now) s now < c → now < (nextR T s c now).1 ∧ takeR (fillT (fillT T s c now) s 0 now) s c ((nextR T s c now).1 - 1) = 190) := by
  have hg : good c now := by
    by_cases hg : good c now
    · exact hg
    · rw [nextR, if_neg hg] at he; cases he
  cases hb : T s with
  | none => rw [nextR, if_pos hg, hb] at he; cases he
  | some b =>
    have hR : nextR T s c now = nextV (fillM b now) c := by rw [nextR, if_pos hg, hb]
    rw [hR] at he ⊢
    obtain ⟨g1, g2, g3, g4⟩ := hg
    have okb := fillM_ok b (okT s b hb) now g3 g4
    have hN := next_law _ okb c g1 g2 he
    have hge := (fill_at_ge b now).1
    have e1 : fillT T s c now s = some (fillM b now) := by rw [fillT, if_pos ⟨g1, g2, g3, g4⟩, hb]; simp [setT]
    have e2 : fillM (fillM b now) now = fillM b now := fill_fill b (okT s b hb) now now (Int.le_refl _)
    have g0 : good 0 now := ⟨by decide, by decide, g3, g4⟩
    have e3 : fillT (fillT T s c now) s 0 now s = some (fillM b now) := by
      rw [fillT, if_pos g0, e1]; simp [setT, e2]
    constructor
    · rw [takeR, if_pos ⟨g1, g2, by omega, hN.2.2.1⟩, e1]; exact hN.1
    · intro hl
      rw [tokV, if_pos g0, e1] at hl
      dsimp only at hl
      rw [e2] at hl
      have h3 := hN.2.2.2 hl
      refine ⟨by omega, ?_⟩
      rw [takeR, if_pos ⟨g1, g2, by omega, by omega⟩, e3]
      exact h3.2
end Go.Proofs.Ytoichcjlfpijeaa
