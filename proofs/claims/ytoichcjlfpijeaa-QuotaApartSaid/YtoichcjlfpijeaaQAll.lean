/- Tables of buckets: each call by one contract. -/
import Derived.Test.YtoichcjlfpijeaaQSet
import Derived.Test.YtoichcjlfpijeaaQOps
namespace Go.Proofs.Ytoichcjlfpijeaa
open Go.RowKit Go.Bl

def Tab (w : World) (t : Nat) (T : ByteArray → Option Bk) (n : Nat) (F : List Nat) : Prop := ∃ m f, TabO w t m f T n F
instance (c n : Int) : Decidable (good c n) := by unfold good; infer_instance
instance (r b n : Int) : Decidable (goodSet r b n) := by unfold goodSet; infer_instance

theorem Tab.fr {w w' : World} {t : Nat} {T : ByteArray → Option Bk} {n : Nat} {F S : List Nat} (h : Tab w t T n F) (hF : Fr S w w') (hS : ∀ i ∈ F, i ∉ S) : Tab w' t T n F := by
  obtain ⟨m, f, h⟩ := h
  exact ⟨m, f, h.fr hF hS⟩
theorem Tab.lt {w : World} {t : Nat} {T : ByteArray → Option Bk} {n : Nat} {F : List Nat} (h : Tab w t T n F) : ∀ i ∈ F, i < w.heap.size := by
  obtain ⟨m, f, h⟩ := h
  exact h.lt
/-- A tenant is there or not. -/
theorem TabO.cases {w : World} {t m : Nat} {f : ByteArray → Option Value} {T : ByteArray → Option Bk} {n : Nat} {F : List Nat} (h : TabO w t m f T n F) (s : ByteArray) :
    (f s = none ∧ T s = none) ∨ ∃ k b, f s = some (ptr k) ∧ T s = some b ∧ BkAt w k b ∧ b.Ok ∧ k ∈ F := by
  cases hf : f s with
  | none => exact .inl ⟨rfl, h.no s hf⟩
  | some v =>
    obtain ⟨k, b, rfl, h2, h3, h4, h5⟩ := h.yes s v hf
    exact .inr ⟨k, b, rfl, h2, h3, h4, h5⟩

def setT (T : ByteArray → Option Bk) (s : ByteArray) (b : Option Bk) : ByteArray → Option Bk := fun x => if x = s then b else T x
theorem setT_self (T : ByteArray → Option Bk) (s : ByteArray) : setT T s (T s) = T := by
  funext x; unfold setT; split
  · rename_i h; rw [h]
  · rfl

/-! ### Take -/
def takeR (T : ByteArray → Option Bk) (s : ByteArray) (c now : Int) : Int :=
  if good c now then (match T s with | none => 5 | some b => takeE (fillM b now) c) else 1
def takeT (T : ByteArray → Option Bk) (s : ByteArray) (c now : Int) : ByteArray → Option Bk :=
  if good c now then setT T s ((T s).map fun b => takeB (fillM b now) c) else T

theorem take_any {w : World} {t : Nat} {T : ByteArray → Option Bk} {n : Nat} {F : List Nat} (h : Tab w t T n F) (s : ByteArray) (c now : Int) :
    Calls Try.prog 13 #[ptr t, .string s, .int .i64 c, .int .i64 now] w fun e w' => e = .returned (.int .i64 (takeR T s c now)) ∧ Tab w' t (takeT T s c now) n F ∧ Fr F w w' := by
  obtain ⟨m, f, h⟩ := h
  unfold takeR takeT
  by_cases hg : good c now
  · rw [if_pos hg, if_pos hg]
    rcases h.cases s with ⟨hf, hT⟩ | ⟨k, b, hf, hT, hb, ok, hk⟩
    · refine (take_none h s c now hg hf).mono ?_
      rintro e w' ⟨rfl, rfl⟩
      rw [hT]
      refine ⟨rfl, ?_, Fr.refl _ _⟩
      have : setT T s (Option.map (fun b => takeB (fillM b now) c) none) = T := by rw [Option.map_none, ← hT, setT_self]
      rw [this]; exact ⟨m, f, h⟩
    · refine (take_some h s c now hg k b hf hb ok).mono ?_
      rintro e w' ⟨rfl, hb', hF⟩
      rw [hT]
      exact ⟨rfl, ⟨m, f, h.set hf hb hF hb' (takeB_ok _ (fillM_ok b ok now hg.2.2.1 hg.2.2.2) c hg.1 hg.2.1)⟩, hF.mono fun i hi => .inl (by rw [List.mem_singleton.1 hi]; exact hk)⟩
  · rw [if_neg hg, if_neg hg]
    refine (take_bad t s c now w hg).mono ?_
    rintro e w' ⟨rfl, rfl⟩
    exact ⟨rfl, ⟨m, f, h⟩, Fr.refl _ _⟩

/-! ### Set -/
def setR (T : ByteArray → Option Bk) (n : Nat) (s : ByteArray) (r b now : Int) : Int :=
  if goodSet r b now then (if T s = none ∧ 16 ≤ n then 7 else 0) else 1
def setS (T : ByteArray → Option Bk) (n : Nat) (s : ByteArray) (r b now : Int) : ByteArray → Option Bk :=
  if setR T n s r b now = 0 then setT T s (some (Bk.new r b now)) else T
def setN (T : ByteArray → Option Bk) (n : Nat) (s : ByteArray) (r b now : Int) : Nat :=
  if setR T n s r b now = 0 then (if T s = none then n + 1 else n) else n

theorem set_any {w : World} {t : Nat} {T : ByteArray → Option Bk} {n : Nat} {F : List Nat} (h : Tab w t T n F) (s : ByteArray) (r b now : Int) :
    Calls Try.prog 11 #[ptr t, .string s, .int .i64 r, .int .i64 b, .int .i64 now] w fun e w' => e = .returned (.int .i64 (setR T n s r b now)) ∧ Fr F w w' ∧
      ∃ F', Tab w' t (setS T n s r b now) (setN T n s r b now) F' ∧ ∀ i ∈ F', i ∈ F ∨ w.heap.size ≤ i := by
  obtain ⟨m, f, h⟩ := h
  by_cases hg : goodSet r b now
  · by_cases hfull : T s = none ∧ 16 ≤ n
    · have hR : setR T n s r b now = 7 := by rw [setR, if_pos hg, if_pos hfull]
      have hf : f s = none := by
        rcases h.cases s with ⟨hf, _⟩ | ⟨k, b, _, hT, _⟩
        · exact hf
        · rw [hfull.1] at hT; cases hT
      refine (set_full h s r b now hg hf hfull.2).mono ?_
      rintro e w' ⟨rfl, hF⟩
      rw [setS, setN, hR]
      exact ⟨rfl, hF.mono (by simp), F, ⟨m, f, h.fr hF (by simp)⟩, fun i hi => .inl hi⟩
    · have hR : setR T n s r b now = 0 := by rw [setR, if_pos hg, if_neg hfull]
      have hr : f s = none → n < 16 := fun hf => by
        have := h.no s hf
        rcases Nat.lt_or_ge n 16 with h1 | h1
        · exact h1
        · exact absurd ⟨this, h1⟩ hfull
      refine (set_ok h s r b now hg hr).mono ?_
      rintro e w' ⟨rfl, hF, hT⟩
      rw [setS, setN, hR, if_pos rfl, if_pos rfl]
      refine ⟨rfl, hF.mono fun i hi => .inl (by rw [List.mem_singleton.1 hi]; exact h.mF), w.heap.size :: F, ⟨m, (fun x => if x = s then some (ptr w.heap.size) else f x), ?_⟩, fun i hi => ?_⟩
      · have hb : bump (f s) n = if T s = none then n + 1 else n := by
          rcases h.cases s with ⟨hf, hT⟩ | ⟨k, b, hf, hT, _⟩ <;> simp [bump, hf, hT]
        rw [← hb]; exact hT
      · rcases List.mem_cons.1 hi with rfl | hi
        · exact .inr (Nat.le_refl _)
        · exact .inl hi
  · have hR : setR T n s r b now = 1 := by rw [setR, if_neg hg]
    refine (set_bad t s r b now w hg).mono ?_
    rintro e w' ⟨rfl, rfl⟩
    rw [setS, setN, hR]
    exact ⟨rfl, Fr.refl _ _, F, ⟨m, f, h⟩, fun i hi => .inl hi⟩

theorem new_tab (w : World) : Calls Try.prog 10 #[] w fun e w' => Fr [] w w' ∧ ∃ t F, e = .returned (ptr t) ∧ Tab w' t (fun _ => none) 0 F ∧ (∀ i ∈ F, w.heap.size ≤ i) :=
  (new_any w).mono fun _ _ ⟨t, m, F, he, hT, hB, hF⟩ => ⟨hF, t, F, he, ⟨m, _, hT⟩, hB⟩
end Go.Proofs.Ytoichcjlfpijeaa
