/- Queries of spans, in plain Lean: what can be, what is written. -/
import Derived.Test.YtdhmloejgoacaaaGreatDoorMw04
import Derived.Test.YtdhmloejgoacaaaGreatDoorMw14
set_option linter.unusedVariables false
set_option linter.unusedSimpArgs false
namespace Go.Tq
open Go.Lq

/-- The units, the greatest first. -/
def units : List (Bs × Int) := [([104], 3600000000000), ([109], 60000000000), ([115], 1000000000), ([109, 115], 1000000), ([117, 115], 1000), ([110, 115], 1)]
def maxTime : Int := 1125899906842624
def spanGo : List (Bs × Int) → Int → Option Bs
  | [], _ => none
  | (nm, u) :: r, n => if n % u = 0 then (if (digs (n / u).toNat).length ≤ 9 then some (digs (n / u).toNat ++ nm) else none) else spanGo r n
/-- A span as text. -/
def spanP (n : Int) : Option Bs := if n < 1 ∨ maxTime < n then none else spanGo units n
def isUnitC (c : UInt8) : Bool := c == 104 || c == 109 || c == 115 || c == 117 || c == 110
def trimR (s : Bs) : Bs := (s.reverse.dropWhile isUnitC).reverse
def unitGo : List (Bs × Int) → Bs → Option Int
  | [], _ => none
  | (nm, u) :: r, s => if nm = s then some u else unitGo r s
/-- Back. -/
def parseSpanP (s : Bs) : Option Int :=
  if trimR s = [] ∨ 9 < (trimR s).length ∨ (trimR s).all isDigit = false ∨ (trimR s).head? = some 48 then none else
  match unitGo units (s.drop (trimR s).length) with
  | none => none
  | some u => if maxTime / u < (numOf (trimR s) : Int) then none else some ((numOf (trimR s) : Int) * u)

theorem digit_not_unit {c : UInt8} (h : isDigit c = true) : isUnitC c = false := by
  revert h; revert c
  have : ∀ n : Fin 256, isDigit (UInt8.ofNat n.val) = true → isUnitC (UInt8.ofNat n.val) = false := by decide +kernel
  intro c h
  have h1 := this ⟨c.toNat, c.toNat_lt⟩
  rw [UInt8.ofNat_toNat] at h1
  exact h1 h
theorem trimR_digits {d nm : Bs} (hd : d.all isDigit = true) (hn : nm.all isUnitC = true) : trimR (d ++ nm) = d := by
  unfold trimR
  rw [List.reverse_append]
  have h1 : ∀ (a b : Bs), a.all isUnitC = true → (∀ c ∈ b.head?, isUnitC c = false) → (a ++ b).dropWhile isUnitC = b := by
    intro a
    induction a with
    | nil =>
      intro b _ hb
      cases b with
      | nil => rfl
      | cons c cs =>
        rw [List.nil_append, List.dropWhile_cons]
        have := hb c (by simp)
        simp [this]
    | cons x xs ih =>
      intro b ha hb
      simp only [List.all_cons, Bool.and_eq_true] at ha
      rw [List.cons_append, List.dropWhile_cons, if_pos ha.1]
      exact ih b ha.2 hb
  rw [h1 nm.reverse d.reverse (by simpa using hn) (fun c hc => ?_), List.reverse_reverse]
  have : c ∈ d := by
    rw [List.head?_reverse] at hc
    exact List.mem_of_getLast? hc
  exact digit_not_unit (List.all_eq_true.1 hd c this)
theorem unit_chars : ∀ x ∈ units, x.1.all isUnitC = true := by decide
theorem unit_pos : ∀ x ∈ units, 0 < x.2 := by decide
theorem unit_find : ∀ x ∈ units, unitGo units x.1 = some x.2 := by decide
theorem spanGo_back : ∀ (l : List (Bs × Int)) (n : Int) (t : Bs), (∀ x ∈ l, x ∈ units) → spanGo l n = some t → ∃ x ∈ units, n % x.2 = 0 ∧ (digs (n / x.2).toNat).length ≤ 9 ∧ t = digs (n / x.2).toNat ++ x.1
  | [], _, _, _, h => by cases h
  | (nm, u) :: r, n, t, hl, h => by
    unfold spanGo at h
    split at h
    · rename_i h1
      split at h
      · rename_i h2
        cases h
        exact ⟨(nm, u), hl _ (by simp), h1, h2, rfl⟩
      · cases h
    · exact spanGo_back r n t (fun x hx => hl x (by simp [hx])) h
theorem span_back {n : Int} {t : Bs} (h : spanP n = some t) : parseSpanP t = some n ∧ (∀ c ∈ t, isDigit c = true ∨ isUnitC c = true) ∧ t ≠ [] ∧ t.length ≤ 11 := by
  unfold spanP at h
  split at h
  · cases h
  · rename_i hn
    obtain ⟨x, hx, h1, h2, rfl⟩ := spanGo_back units n t (fun x hx => hx) h
    have hu := unit_pos x hx
    have hq0 : 0 ≤ n / x.2 := Int.ediv_nonneg (by omega) (by omega)
    have hmul : n / x.2 * x.2 = n := Int.ediv_mul_cancel (Int.dvd_of_emod_eq_zero h1)
    have hq1 : 1 ≤ n / x.2 := by
      rcases (by omega : n / x.2 = 0 ∨ 1 ≤ n / x.2) with h0 | h0
      · rw [h0, Int.zero_mul] at hmul; omega
      · exact h0
    obtain ⟨k, hk⟩ : ∃ k : Nat, n / x.2 = (k : Int) := ⟨(n / x.2).toNat, by omega⟩
    rw [hk] at h2 hq1 hmul ⊢
    rw [Int.toNat_natCast] at h2 ⊢
    obtain ⟨d1, d2, d3, d4⟩ := digs_spec k
    have hnl : x.1.length ≤ 2 := by
      have : ∀ x ∈ units, x.1.length ≤ 2 := by decide
      exact this x hx
    refine ⟨?_, fun c hc => ?_, by simp [d3], by rw [List.length_append]; omega⟩
    · unfold parseSpanP
      rw [trimR_digits d1 (unit_chars x hx), if_neg (by simp [d3, d1]; exact ⟨by omega, d4 (by omega)⟩), List.drop_left, unit_find x hx, d2]
      simp only
      have hle : ¬ maxTime / x.2 < (k : Int) := by
        have : (k : Int) ≤ maxTime / x.2 := by
          apply (Int.le_ediv_iff_mul_le hu).2
          rw [hmul]
          omega
        omega
      rw [if_neg hle, hmul]
    · rcases List.mem_append.1 hc with h | h
      · exact .inl (List.all_eq_true.1 d1 c h)
      · exact .inr (List.all_eq_true.1 (unit_chars x hx) c h)

structure St where
  name : Bs
  least : Int
  mat : List Mt
deriving DecidableEq
structure Tq where
  first : St
  second : St
  has : Int
  limit : Int
deriving DecidableEq
def emptySt : St := ⟨[], 0, []⟩
def wSpans : Bs := [115, 112, 97, 110, 115]
def wNamed : Bs := [110, 97, 109, 101, 100]
def wLeast : Bs := [108, 101, 97, 115, 116]
def wWith : Bs := [119, 105, 116, 104]
def wDesc : Bs := [100, 101, 115, 99, 101, 110, 100, 97, 110, 116]
def wChild : Bs := [99, 104, 105, 108, 100]
/-- What is wrong of a test. -/
def wrongS (V : Bs → Bool) (t : St) : Int :=
  if t.name ≠ [] ∧ valueP V t.name = false then 41 else if t.least ≠ 0 ∧ spanP t.least = none then 1 else rightM V t.mat
def spanD (n : Int) : Bs := (spanP n).getD []
/-- A test's words, each behind a blank. -/
def testT (t : St) : Bs :=
  (if t.name ≠ [] then 32 :: (wNamed ++ 32 :: quoteP t.name) else []) ++
  ((if t.least ≠ 0 then 32 :: (wLeast ++ 32 :: spanD t.least) else []) ++
   (if t.mat ≠ [] then 32 :: matchText t.mat else []))
def textT (q : Tq) : Bs :=
  wSpans ++ (testT q.first ++ ((if q.has = 1 then 32 :: (wWith ++ 32 :: (wDesc ++ testT q.second)) else if q.has = 2 then 32 :: (wWith ++ 32 :: (wChild ++ testT q.second)) else []) ++
    (if q.limit ≠ 0 then 32 :: (wLimit ++ 32 :: digs q.limit.toNat) else [])))
def rightT (V : Bs → Bool) (q : Tq) : Int :=
  if wrongS V q.first ≠ 0 then wrongS V q.first else if wrongS V q.second ≠ 0 then wrongS V q.second else
  if q.has < 0 ∨ 2 < q.has ∨ q.limit < 0 ∨ 1000 < q.limit then 1 else
  if q.has = 0 ∧ q.second ≠ emptySt then 3 else
  if 1024 < (textT q).length then 4 else 0
end Go.Tq
