/- Buckets: plain laws. -/
import Derived.Test.YtoichcjlfpijeaaQAll
namespace Go.Proofs.Ytoichcjlfpijeaa
open Go.RowKit Go.Bl

/-- What a bucket holds and what was taken, against what came. -/
def BI (rate burst : Int) (o : Option Bk) (nw tk : Int) : Prop :=
  ∃ b, o = some b ∧ b.Ok ∧ b.rate = rate ∧ b.burst = burst ∧ b.at_ ≤ nw ∧ nw ≤ 10000000000 ∧ 0 ≤ tk ∧ tk * 1000000000 + b.has * 1000000000 + b.part ≤ burst * 1000000000 + b.at_ * rate

theorem fill_total (b : Bk) (ok : b.Ok) (now : Int) (X : Int) (h : X + b.has * 1000000000 + b.part ≤ b.burst * 1000000000 + b.at_ * b.rate) :
    X + (fillM b now).has * 1000000000 + (fillM b now).part ≤ b.burst * 1000000000 + (fillM b now).at_ * b.rate := by
  unfold fillM
  split
  · exact h
  rename_i hle
  have hr0 := ok.rate0
  have e1 : now * b.rate = b.at_ * b.rate + (now - b.at_) * b.rate := by rw [← Int.add_mul]; congr 1; omega
  have e2 : 0 ≤ (now - b.at_) * b.rate := Int.mul_nonneg (by omega) hr0
  split
  · dsimp only; omega
  split
  · rename_i hr hs
    have hrp : 0 < b.rate := by omega
    have h2 := (Int.ediv_le_iff_le_mul hrp).1 hs
    dsimp only
    omega
  · dsimp only
    omega

theorem take_BI_one {rate burst nw tk c : Int} (b1 : Bk) (okf : b1.Ok) (g1 : 0 ≤ c) (g2 : c ≤ 1000000000) (k1 : b1.rate = rate) (k2 : b1.burst = burst) (hat : b1.at_ ≤ nw) (hd1 : nw ≤ 10000000000) (h5 : 0 ≤ tk)
    (hT : tk * 1000000000 + b1.has * 1000000000 + b1.part ≤ burst * 1000000000 + b1.at_ * rate) : BI rate burst (some (takeB b1 c)) nw (if takeE b1 c = 0 then tk + c else tk) := by
  refine ⟨takeB b1 c, rfl, takeB_ok b1 okf c g1 g2, ?_⟩
  unfold takeE takeB
  by_cases hlt : b1.has < c
  · rw [if_pos hlt, if_pos hlt, if_neg (by decide)]
    exact ⟨k1, k2, hat, hd1, h5, hT⟩
  · rw [if_neg hlt, if_neg hlt, if_pos rfl]
    have e1 : (tk + c) * 1000000000 = tk * 1000000000 + c * 1000000000 := Int.add_mul _ _ _
    have e2 : (b1.has - c) * 1000000000 = b1.has * 1000000000 - c * 1000000000 := Int.sub_mul _ _ _
    refine ⟨k1, k2, hat, hd1, by omega, ?_⟩
    dsimp only
    omega

theorem fill_at (b : Bk) (now : Int) (h : b.at_ ≤ now) : (fillM b now).at_ ≤ now := by
  unfold fillM
  split
  · exact h
  split
  · exact Int.le_refl _
  split <;> exact Int.le_refl _

theorem take_BI {rate burst nw tk d c : Int} {T : ByteArray → Option Bk} {s : ByteArray} (h : BI rate burst (T s) nw tk) (hd0 : 0 ≤ d) (hd1 : nw + d ≤ 10000000000) :
    BI rate burst (takeT T s c (nw + d) s) (nw + d) (if takeR T s c (nw + d) = 0 then tk + c else tk) := by
  obtain ⟨b, hb, ok, h1, h2, h3, h4, h5, h6⟩ := h
  have a0 := ok.at0
  unfold takeT takeR
  by_cases hg : good c (nw + d)
  · rw [if_pos hg, if_pos hg, hb]
    have e1 : setT T s (Option.map (fun b => takeB (fillM b (nw + d)) c) (some b)) s = some (takeB (fillM b (nw + d)) c) := by simp [setT]
    rw [e1]
    obtain ⟨g1, g2, g3, g4⟩ := hg
    have hk := fillM_keeps b (nw + d)
    have hT := fill_total b ok (nw + d) (tk * 1000000000) (by rw [h1, h2]; exact h6)
    rw [h1, h2] at hT
    exact take_BI_one _ (fillM_ok b ok (nw + d) g3 g4) g1 g2 (hk.1.trans h1) (hk.2.1.trans h2) (fill_at b _ (by omega)) hd1 h5 hT
  · rw [if_neg hg, if_neg hg, if_neg (by decide)]
    exact ⟨b, hb, ok, h1, h2, by omega, hd1, h5, h6⟩

theorem BI_le {rate burst nw tk : Int} {o : Option Bk} (h : BI rate burst o nw tk) :
    0 ≤ nw ∧ nw ≤ 10000000000 ∧ 0 ≤ tk ∧ tk ≤ 20000000000 ∧ tk ≤ burst + (nw / 1000000000 * rate + nw % 1000000000 * rate / 1000000000) ∧
    0 ≤ nw / 1000000000 * rate ∧ nw / 1000000000 * rate ≤ 100000000000 ∧ 0 ≤ nw % 1000000000 * rate ∧ nw % 1000000000 * rate ≤ 1000000000000000000 := by
  obtain ⟨b, hb, ok, rfl, rfl, h3, h4, h5, h6⟩ := h
  have a0 := ok.at0
  have r0 := ok.rate0
  have r1 := ok.rate1
  have b1 := ok.burst1
  have p0 := ok.part0
  have s0 := ok.has0
  have n0 : 0 ≤ nw := by omega
  have m1 : b.at_ * b.rate ≤ nw * b.rate := Int.mul_le_mul_of_nonneg_right h3 r0
  have m2 : nw * b.rate ≤ 10000000000 * 1000000000 := Int.mul_le_mul h4 r1 r0 (by omega)
  have e : nw * b.rate = (nw / 1000000000 * b.rate) * 1000000000 + nw % 1000000000 * b.rate := by
    have : nw = nw / 1000000000 * 1000000000 + nw % 1000000000 := by omega
    have e2 : nw / 1000000000 * b.rate * 1000000000 = nw / 1000000000 * 1000000000 * b.rate := by rw [Int.mul_assoc, Int.mul_comm b.rate, ← Int.mul_assoc]
    rw [e2, ← Int.add_mul, ← this]
  have q0 : 0 ≤ nw / 1000000000 * b.rate := Int.mul_nonneg (by omega) r0
  have q1 : nw / 1000000000 * b.rate ≤ 10 * 1000000000 := Int.mul_le_mul (by omega) r1 r0 (by omega)
  have q2 : 0 ≤ nw % 1000000000 * b.rate := Int.mul_nonneg (by omega) r0
  have q3 : nw % 1000000000 * b.rate ≤ 1000000000 * 1000000000 := Int.mul_le_mul (by omega) r1 r0 (by omega)
  generalize nw / 1000000000 * b.rate = x at *
  generalize nw % 1000000000 * b.rate = y at *
  generalize b.at_ * b.rate = z at *
  generalize nw * b.rate = u at *
  refine ⟨n0, h4, h5, ?_, ?_, q0, ?_, q2, ?_⟩ <;> omega
end Go.Proofs.Ytoichcjlfpijeaa
