/- Buckets: asking in between changes nothing. -/
import Derived.Test.YtoichcjlfpijeaaStep
namespace Go.Proofs.Ytoichcjlfpijeaa
open Go.RowKit Go.Bl

theorem bk_mk {a b : Bk} (h1 : a.rate = b.rate) (h2 : a.burst = b.burst) (h3 : a.has = b.has) (h4 : a.part = b.part) (h5 : a.at_ = b.at_) (h6 : a.tk = b.tk) (h7 : a.rf = b.rf) (h8 : a.cs = b.cs) : a = b := by
  cases a; cases b; simp_all

theorem fill_fill (b : Bk) (ok : b.Ok) (t1 t2 : Int) (h : t1 ≤ t2) : fillM (fillM b t1) t2 = fillM b t2 := by
  by_cases h1 : t1 - b.at_ ≤ 0
  · have : fillM b t1 = b := by rw [fillM, if_pos h1]
    rw [this]
  have g2 : ¬ t2 - b.at_ ≤ 0 := by omega
  by_cases hr : b.rate = 0
  · have e1 : fillM b t1 = { b with at_ := t1 } := by rw [fillM, if_neg h1, if_pos hr]
    have e2 : fillM b t2 = { b with at_ := t2 } := by rw [fillM, if_neg g2, if_pos hr]
    rw [e1, e2]
    by_cases h3 : t2 - t1 ≤ 0
    · have : t2 = t1 := by omega
      subst this
      unfold fillM; dsimp only; rw [if_pos h3]
    · unfold fillM; dsimp only; rw [if_neg h3, if_pos hr]
  have hr1 := ok.rate0
  have s1 := ok.has1
  have p0 := ok.part0
  have p1 := ok.part1
  have hrp : 0 < b.rate := by omega
  have em : (t2 - b.at_) * b.rate = (t1 - b.at_) * b.rate + (t2 - t1) * b.rate := by rw [← Int.add_mul]; congr 1; omega
  have m0 : 0 ≤ (t2 - t1) * b.rate := Int.mul_nonneg (by omega) hr1
  have n0 : 0 ≤ (t1 - b.at_) * b.rate := Int.mul_nonneg (by omega) hr1
  by_cases hs : ((b.burst - b.has) * 1000000000 - b.part + b.rate - 1) / b.rate ≤ t1 - b.at_
  · have e1 : fillM b t1 = { b with at_ := t1, has := b.burst, part := 0 } := by rw [fillM, if_neg h1, if_neg hr, if_pos hs]
    have e2 : fillM b t2 = { b with at_ := t2, has := b.burst, part := 0 } := by rw [fillM, if_neg g2, if_neg hr, if_pos (by omega)]
    rw [e1, e2]
    by_cases h3 : t2 - t1 ≤ 0
    · have : t2 = t1 := by omega
      subst this
      unfold fillM; dsimp only; rw [if_pos h3]
    · unfold fillM; dsimp only; rw [if_neg h3, if_neg hr]
      have hz : ((b.burst - b.burst) * 1000000000 - 0 + b.rate - 1) / b.rate ≤ t2 - t1 := by
        have : ((b.burst - b.burst) * 1000000000 - 0 + b.rate - 1) / b.rate = 0 := by rw [Int.sub_self]; exact Int.ediv_eq_zero_of_lt (by omega) (by omega)
        omega
      rw [if_pos hz]
  · have e1 : fillM b t1 = { b with at_ := t1, has := b.has + (b.part + (t1 - b.at_) * b.rate) / 1000000000, part := (b.part + (t1 - b.at_) * b.rate) % 1000000000 } := by rw [fillM, if_neg h1, if_neg hr, if_neg hs]
    by_cases h3 : t2 - t1 ≤ 0
    · have : t2 = t1 := by omega
      subst this
      rw [e1]
      conv => lhs; unfold fillM
      dsimp only; rw [if_pos h3]
    have hd := Int.emod_add_mul_ediv (b.part + (t1 - b.at_) * b.rate) 1000000000
    have q1 := Int.emod_nonneg (b.part + (t1 - b.at_) * b.rate) (show (1000000000 : Int) ≠ 0 by decide)
    have q2 := Int.emod_lt_of_pos (b.part + (t1 - b.at_) * b.rate) (show (0 : Int) < 1000000000 by decide)
    have i1 : ((b.burst - (b.has + (b.part + (t1 - b.at_) * b.rate) / 1000000000)) * 1000000000 - (b.part + (t1 - b.at_) * b.rate) % 1000000000 + b.rate - 1) / b.rate ≤ t2 - t1 ↔ ((b.burst - b.has) * 1000000000 - b.part + b.rate - 1) / b.rate ≤ t2 - b.at_ := by
      rw [Int.ediv_le_iff_le_mul hrp, Int.ediv_le_iff_le_mul hrp, em]
      omega
    rw [e1]
    by_cases hs2 : ((b.burst - b.has) * 1000000000 - b.part + b.rate - 1) / b.rate ≤ t2 - b.at_
    · have e2 : fillM b t2 = { b with at_ := t2, has := b.burst, part := 0 } := by rw [fillM, if_neg g2, if_neg hr, if_pos hs2]
      rw [e2]
      conv => lhs; unfold fillM
      dsimp only
      rw [if_neg h3, if_neg hr, if_pos (i1.2 hs2)]
    · have e2 : fillM b t2 = { b with at_ := t2, has := b.has + (b.part + (t2 - b.at_) * b.rate) / 1000000000, part := (b.part + (t2 - b.at_) * b.rate) % 1000000000 } := by rw [fillM, if_neg g2, if_neg hr, if_neg hs2]
      rw [e2]
      conv => lhs; unfold fillM
      dsimp only
      rw [if_neg h3, if_neg hr, if_neg (fun x => hs2 (i1.1 x)), em]
      refine bk_mk rfl rfl ?_ ?_ rfl rfl rfl rfl <;> dsimp only <;> omega

/-- From a time on, both buckets are filled alike. -/
def ARel (now : Int) (T U : ByteArray → Option Bk) : Prop :=
  ∀ s, (T s = none ∧ U s = none) ∨ ∃ a b, T s = some a ∧ U s = some b ∧ a.tk = b.tk ∧ a.rf = b.rf ∧ a.cs = b.cs ∧ ∀ t, now ≤ t → fillM a t = fillM b t

theorem ARel.refl (now : Int) (T : ByteArray → Option Bk) : ARel now T T := fun s => by
  cases h : T s with
  | none => exact .inl ⟨rfl, rfl⟩
  | some a => exact .inr ⟨a, a, rfl, rfl, rfl, rfl, rfl, fun _ _ => rfl⟩
theorem ARel.later {now now' : Int} {T U : ByteArray → Option Bk} (h : ARel now T U) (hl : now ≤ now') : ARel now' T U := fun s => by
  rcases h s with h | ⟨a, b, h1, h2, h3, h4, h5, h6⟩
  · exact .inl h
  · exact .inr ⟨a, b, h1, h2, h3, h4, h5, fun t ht => h6 t (by omega)⟩

theorem ARel.set {now : Int} {T U : ByteArray → Option Bk} (h : ARel now T U) (s : ByteArray) {x y : Option Bk} (hx : (x = none ∧ y = none) ∨ ∃ a b, x = some a ∧ y = some b ∧ a.tk = b.tk ∧ a.rf = b.rf ∧ a.cs = b.cs ∧ ∀ t, now ≤ t → fillM a t = fillM b t) :
    ARel now (setT T s x) (setT U s y) := fun z => by
  unfold setT
  by_cases e : z = s
  · rw [if_pos e, if_pos e]; exact hx
  · rw [if_neg e, if_neg e]; exact h z

theorem ARel.ask {now t : Int} {T U : ByteArray → Option Bk} (h : ARel now T U) (okU : ∀ s b, U s = some b → b.Ok) (s : ByteArray) (c : Int) (h2 : t ≤ now) : ARel now T (fillT U s c t) := by
  unfold fillT
  split
  · have hs := h s
    have := h.set s (x := T s) (y := (U s).map fun b => fillM b t) (by
      rcases hs with ⟨a, b⟩ | ⟨a, b, e1, e2, e3, e4, e5, e6⟩
      · exact .inl ⟨a, by rw [b]; rfl⟩
      · have hk := fillM_keeps b t
        refine .inr ⟨a, fillM b t, e1, by rw [e2]; rfl, by rw [hk.2.2.1, e3], by rw [hk.2.2.2.1, e4], by rw [hk.2.2.2.2, e5], fun u hu => ?_⟩
        rw [e6 u hu, fill_fill b (okU s b e2) t u (by omega)])
    rwa [setT_self] at this
  · exact h

theorem Tab.ok {w : World} {t : Nat} {T : ByteArray → Option Bk} {n : Nat} {F : List Nat} (h : Tab w t T n F) (s : ByteArray) (b : Bk) (hb : T s = some b) : b.Ok := by
  obtain ⟨m, f, h⟩ := h
  rcases h.cases s with ⟨_, h2⟩ | ⟨k, b', _, h2, _, h4, _⟩
  · rw [h2] at hb; cases hb
  · rw [h2] at hb; cases hb; exact h4

theorem ARel.both {now : Int} {T U : ByteArray → Option Bk} (h : ARel now T U) (s : ByteArray) (f : Bk → Bk) : ARel now (setT T s ((T s).map fun b => f (fillM b now))) (setT U s ((U s).map fun b => f (fillM b now))) :=
  h.set s (by
    rcases h s with ⟨a, b⟩ | ⟨a, b, e1, e2, e3, e4, e5, e6⟩
    · exact .inl ⟨by rw [a]; rfl, by rw [b]; rfl⟩
    · rw [e1, e2, Option.map_some, Option.map_some, e6 now (Int.le_refl _)]
      exact .inr ⟨_, _, rfl, rfl, rfl, rfl, rfl, fun _ _ => rfl⟩)
theorem ARel.none {now : Int} {T U : ByteArray → Option Bk} (h : ARel now T U) (s : ByteArray) : T s = none ↔ U s = none := by
  rcases h s with ⟨a, b⟩ | ⟨a, b, e1, e2, _⟩
  · simp [a, b]
  · simp [e1, e2]

theorem ARel.step {T U : ByteArray → Option Bk} {n : Nat} (o : QOp) (h : ARel o.now T U) : ARel o.now (stepT T n o) (stepT U n o) ∧ stepN U n o = stepN T n o := by
  have hR : ∀ (r b now : Int), setR T n o.name r b now = setR U n o.name r b now := fun r b now => by unfold setR; simp only [h.none o.name]
  have hD : dropN U n o.name = dropN T n o.name := by
    unfold dropN
    rcases h o.name with ⟨a, b⟩ | ⟨a, b, e1, e2, _⟩
    · rw [a, b]
    · rw [e1, e2]
  have hN : ∀ (r b now : Int), setN U n o.name r b now = setN T n o.name r b now := fun r b now => by unfold setN; simp only [hR, h.none o.name]
  unfold stepT stepN
  constructor
  · split
    · unfold setS
      rw [hR]
      split
      · exact h.set _ (.inr ⟨_, _, rfl, rfl, rfl, rfl, rfl, fun _ _ => rfl⟩)
      · exact h
    split
    · unfold takeT
      split
      · exact h.both o.name (fun b => takeB b o.cost)
      · exact h
    split
    · unfold giveT
      split
      · exact h.both o.name (fun b => giveB b o.cost)
      · exact h
    split
    · unfold fillT
      split
      · exact h.both _ id
      · exact h
    split
    · unfold fillT
      split
      · exact h.both _ id
      · exact h
    split
    · exact h.set _ (.inl ⟨rfl, rfl⟩)
    · exact h
  · rw [hN, hD]

theorem ARel.cnt {now : Int} {T U : ByteArray → Option Bk} (h : ARel now T U) (s : ByteArray) : cntV U s = cntV T s ∧ cntE U s = cntE T s := by
  unfold cntV cntE
  rcases h s with ⟨a, b⟩ | ⟨a, b, e1, e2, e3, e4, e5, _⟩
  · rw [a, b]; exact ⟨rfl, rfl⟩
  · rw [e1, e2]; dsimp only; rw [e3, e4, e5]; exact ⟨rfl, rfl⟩
theorem ARel.tok {now : Int} {T U : ByteArray → Option Bk} (h : ARel now T U) (s : ByteArray) : tokV U s now = tokV T s now ∧ tokE U s now = tokE T s now := by
  unfold tokV tokE
  rcases h s with ⟨a, b⟩ | ⟨a, b, e1, e2, e3, e4, e5, e6⟩
  · rw [a, b]; exact ⟨rfl, rfl⟩
  · rw [e1, e2]; dsimp only; rw [e6 now (Int.le_refl _)]; exact ⟨rfl, rfl⟩
theorem ARel.fill2 {now : Int} {T U : ByteArray → Option Bk} (h : ARel now T U) (s : ByteArray) : ARel now (fillT T s 0 now) (fillT U s 0 now) := by
  unfold fillT
  split
  · exact h.both _ id
  · exact h
end Go.Proofs.Ytoichcjlfpijeaa
