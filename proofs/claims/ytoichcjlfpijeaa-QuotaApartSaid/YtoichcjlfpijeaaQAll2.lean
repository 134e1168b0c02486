/- Tables of buckets: Tokens, Give, Next, Counts, Drop, Len by one contract each; known. -/
import Derived.Test.YtoichcjlfpijeaaQAll
import Derived.Test.YtoichcjlfpijeaaQOps2
namespace Go.Proofs.Ytoichcjlfpijeaa
open Go.RowKit Go.Bl

section
variable {w : World} {t : Nat} {T : ByteArray → Option Bk} {n : Nat} {F : List Nat}

def fillT (T : ByteArray → Option Bk) (s : ByteArray) (c now : Int) : ByteArray → Option Bk :=
  if good c now then setT T s ((T s).map fun b => fillM b now) else T
theorem setT_none {T : ByteArray → Option Bk} {s : ByteArray} (h : T s = none) (g : Bk → Bk) : setT T s ((T s).map g) = T := by
  rw [h, Option.map_none, ← h, setT_self]

def tokE (T : ByteArray → Option Bk) (s : ByteArray) (now : Int) : Int := if good 0 now then (match T s with | none => 5 | some _ => 0) else 1
def tokV (T : ByteArray → Option Bk) (s : ByteArray) (now : Int) : Int := if good 0 now then (match T s with | none => 0 | some b => (fillM b now).has) else 0
theorem tok_any (h : Tab w t T n F) (s : ByteArray) (now : Int) :
    Calls Try.prog 15 #[ptr t, .string s, .int .i64 now] w fun e w' => e = .returned (.tuple #[.int .i64 (tokV T s now), .int .i64 (tokE T s now)]) ∧ Tab w' t (fillT T s 0 now) n F ∧ Fr F w w' := by
  obtain ⟨m, f, h⟩ := h
  unfold tokV tokE fillT
  by_cases hg : good 0 now
  · rw [if_pos hg, if_pos hg, if_pos hg]
    rcases h.cases s with ⟨hf, hT⟩ | ⟨k, b, hf, hT, hb, ok, hk⟩
    · refine (tok_none h s now hg hf).mono ?_
      rintro e w' ⟨rfl, rfl⟩
      rw [setT_none hT]
      rw [hT]
      exact ⟨rfl, ⟨m, f, h⟩, Fr.refl _ _⟩
    · refine (tok_some h s now hg k b hf hb ok).mono ?_
      rintro e w' ⟨rfl, hb', hF⟩
      rw [hT]
      exact ⟨rfl, ⟨m, f, h.set hf hb hF hb' (fillM_ok b ok now hg.2.2.1 hg.2.2.2)⟩, hF.mono fun i hi => .inl (by rw [List.mem_singleton.1 hi]; exact hk)⟩
  · rw [if_neg hg, if_neg hg, if_neg hg]
    refine (tok_bad t s now w hg).mono ?_
    rintro e w' ⟨rfl, rfl⟩
    exact ⟨rfl, ⟨m, f, h⟩, Fr.refl _ _⟩

def nextR (T : ByteArray → Option Bk) (s : ByteArray) (c now : Int) : Int × Int := if good c now then (match T s with | none => (0, 5) | some b => nextV (fillM b now) c) else (0, 1)
theorem next_any (h : Tab w t T n F) (s : ByteArray) (c now : Int) :
    Calls Try.prog 32 #[ptr t, .string s, .int .i64 c, .int .i64 now] w fun e w' => e = .returned (.tuple #[.int .i64 (nextR T s c now).1, .int .i64 (nextR T s c now).2]) ∧ Tab w' t (fillT T s c now) n F ∧ Fr F w w' := by
  obtain ⟨m, f, h⟩ := h
  unfold nextR fillT
  by_cases hg : good c now
  · rw [if_pos hg, if_pos hg]
    rcases h.cases s with ⟨hf, hT⟩ | ⟨k, b, hf, hT, hb, ok, hk⟩
    · refine (next_none h s c now hg hf).mono ?_
      rintro e w' ⟨rfl, rfl⟩
      rw [setT_none hT]
      rw [hT]
      exact ⟨rfl, ⟨m, f, h⟩, Fr.refl _ _⟩
    · refine (next_some h s c now hg k b hf hb ok).mono ?_
      rintro e w' ⟨rfl, hb', hF⟩
      rw [hT]
      exact ⟨rfl, ⟨m, f, h.set hf hb hF hb' (fillM_ok b ok now hg.2.2.1 hg.2.2.2)⟩, hF.mono fun i hi => .inl (by rw [List.mem_singleton.1 hi]; exact hk)⟩
  · rw [if_neg hg, if_neg hg]
    refine (next_bad t s c now w hg).mono ?_
    rintro e w' ⟨rfl, rfl⟩
    exact ⟨rfl, ⟨m, f, h⟩, Fr.refl _ _⟩

def giveE (T : ByteArray → Option Bk) (s : ByteArray) (c now : Int) : Int := if good c now then (match T s with | none => 5 | some _ => 0) else 1
def giveT (T : ByteArray → Option Bk) (s : ByteArray) (c now : Int) : ByteArray → Option Bk :=
  if good c now then setT T s ((T s).map fun b => giveB (fillM b now) c) else T
theorem give_any (h : Tab w t T n F) (s : ByteArray) (c now : Int) :
    Calls Try.prog 34 #[ptr t, .string s, .int .i64 c, .int .i64 now] w fun e w' => e = .returned (.int .i64 (giveE T s c now)) ∧ Tab w' t (giveT T s c now) n F ∧ Fr F w w' := by
  obtain ⟨m, f, h⟩ := h
  unfold giveE giveT
  by_cases hg : good c now
  · rw [if_pos hg, if_pos hg]
    rcases h.cases s with ⟨hf, hT⟩ | ⟨k, b, hf, hT, hb, ok, hk⟩
    · refine (give_none h s c now hg hf).mono ?_
      rintro e w' ⟨rfl, rfl⟩
      rw [setT_none hT]
      rw [hT]
      exact ⟨rfl, ⟨m, f, h⟩, Fr.refl _ _⟩
    · refine (give_some h s c now hg k b hf hb ok).mono ?_
      rintro e w' ⟨rfl, hb', hF⟩
      rw [hT]
      exact ⟨rfl, ⟨m, f, h.set hf hb hF hb' (giveB_ok _ (fillM_ok b ok now hg.2.2.1 hg.2.2.2) c hg.1)⟩, hF.mono fun i hi => .inl (by rw [List.mem_singleton.1 hi]; exact hk)⟩
  · rw [if_neg hg, if_neg hg]
    refine (give_bad t s c now w hg).mono ?_
    rintro e w' ⟨rfl, rfl⟩
    exact ⟨rfl, ⟨m, f, h⟩, Fr.refl _ _⟩

def cntE (T : ByteArray → Option Bk) (s : ByteArray) : Int := match T s with | none => 5 | some _ => 0
def cntV (T : ByteArray → Option Bk) (s : ByteArray) : Int × Int × Int := match T s with | none => (0, 0, 0) | some b => (b.tk, b.rf, b.cs)
theorem cnt_any (h : Tab w t T n F) (s : ByteArray) :
    Calls Try.prog 17 #[ptr t, .string s] w fun e w' => e = .returned (.tuple #[.agg #[.int .i64 (cntV T s).1, .int .i64 (cntV T s).2.1, .int .i64 (cntV T s).2.2], .int .i64 (cntE T s)]) ∧ Tab w' t T n F ∧ Fr [] w w' := by
  obtain ⟨m, f, h⟩ := h
  unfold cntV cntE
  rcases h.cases s with ⟨hf, hT⟩ | ⟨k, b, hf, hT, hb, ok, hk⟩
  · refine (cnt_none h s hf).mono ?_
    rintro e w' ⟨rfl, hF⟩
    rw [hT]
    exact ⟨rfl, ⟨m, f, h.fr hF (by simp)⟩, hF⟩
  · refine (cnt_some h s k b hf hb).mono ?_
    rintro e w' ⟨rfl, hF⟩
    rw [hT]
    exact ⟨rfl, ⟨m, f, h.fr hF (by simp)⟩, hF⟩

def dropN (T : ByteArray → Option Bk) (n : Nat) (s : ByteArray) : Nat := match T s with | none => n | some _ => n - 1
theorem drop_any (h : Tab w t T n F) (s : ByteArray) :
    Calls Try.prog 35 #[ptr t, .string s] w fun e w' => e = .returned (.int .i64 (cntE T s)) ∧ Tab w' t (setT T s none) (dropN T n s) F ∧ Fr F w w' := by
  obtain ⟨m, f, h⟩ := h
  unfold cntE dropN
  rcases h.cases s with ⟨hf, hT⟩ | ⟨k, b, hf, hT, hb, ok, hk⟩
  · refine (drop_none h s hf).mono ?_
    rintro e w' ⟨rfl, hF⟩
    have : setT T s none = T := by rw [← hT, setT_self]
    rw [this, hT]
    exact ⟨rfl, ⟨m, f, h.fr hF (by simp)⟩, hF.mono (by simp)⟩
  · refine (drop_some h s k b hf hb).mono ?_
    rintro e w' ⟨rfl, hF, hT'⟩
    rw [hT]
    exact ⟨rfl, ⟨m, _, hT'⟩, hF.mono fun i hi => .inl (by rw [List.mem_singleton.1 hi]; exact h.mF)⟩

theorem len_any (h : Tab w t T n F) : Calls Try.prog 36 #[ptr t] w fun e w' => e = .returned (.int .i64 n) ∧ w = w' := by
  obtain ⟨m, f, h⟩ := h
  exact len_tab h
end

/-! ### known -/
def sA : ByteArray := ⟨#[97]⟩
def T0 : ByteArray → Option Bk := fun _ => none
def T1 := setS T0 0 sA 1000000 2000000 0
def T2 := takeT T1 sA 2000000 0
def T3 := takeT T2 sA 1 0
def T4 := takeT T3 sA 500000 500000000
theorem k1 : setN T0 0 sA 1000000 2000000 0 = 1 := by decide +kernel
theorem k2 : takeR T1 sA 2000000 0 = 0 := by decide +kernel
theorem k3 : takeR T2 sA 1 0 = 190 := by decide +kernel
theorem k4 : takeR T3 sA 500000 500000000 = 0 := by decide +kernel
theorem k5 : (nextR T4 sA 1000000 500000000).1 = 1500000000 := by decide +kernel
theorem k6 : (nextR T4 sA 1000000 500000000).2 = 0 := by decide +kernel

theorem known_any (w : World) : Calls Try.prog 12 #[] w fun e w' => e = .returned (.bool true) ∧ Fr [] w w' := by
  go_enter Try.func12, Try.ntmps12
  go_wp2_with fail
  refine (new_tab w).mono ?_
  rintro e w1 ⟨hF1, t, F, rfl, hT1, hB1⟩
  go_wp2_with fail
  refine (set_any (T := T0) hT1 sA 1000000 2000000 0).mono ?_
  rintro e w2 ⟨rfl, hF2, F2, hT2, hB2⟩
  have hB3 : ∀ i ∈ F2, w.heap.size ≤ i := fun i hi => by
    rcases hB2 i hi with h | h
    · exact hB1 i h
    · have := hF1.size; omega
  have hG2 := hF1.new hF2 hB1
  clear hF1 hF2 hB1 hB2 hT1
  go_wp2_with fail
  refine (take_any (T := T1) hT2 sA 2000000 0).mono ?_
  rintro e w3 ⟨he, hT3, hF3⟩
  rw [k2] at he
  subst he
  have hG3 := hG2.new hF3 hB3
  clear hT2 hG2 hF3
  go_wp2_with fail
  refine (take_any (T := T2) hT3 sA 1 0).mono ?_
  rintro e w4 ⟨he, hT4, hF4⟩
  rw [k3] at he
  subst he
  have hG4 := hG3.new hF4 hB3
  clear hT3 hG3 hF4
  go_wp2_with fail
  refine (take_any (T := T3) hT4 sA 500000 500000000).mono ?_
  rintro e w5 ⟨he, hT5, hF5⟩
  rw [k4] at he
  subst he
  have hG5 := hG4.new hF5 hB3
  clear hT4 hG4 hF5
  go_wp2_with fail
  refine (next_any (T := T4) hT5 sA 1000000 500000000).mono ?_
  rintro e w6 ⟨he, hT6, hF6⟩
  rw [k5, k6] at he
  subst he
  have hG6 := hG5.new hF6 hB3
  clear hT5 hG5 hF6
  go_wp2_with fail
  go_ret
  exact ⟨rfl, hG6⟩
end Go.Proofs.Ytoichcjlfpijeaa
