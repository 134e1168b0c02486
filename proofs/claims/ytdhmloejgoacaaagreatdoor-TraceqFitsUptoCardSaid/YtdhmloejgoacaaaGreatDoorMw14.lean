/- Joined texts (plain). -/
import Derived.Test.YtdhmloejgoacaaaGreatDoorLqPure
import Derived.Lib.Join
set_option linter.unusedVariables false
set_option linter.unusedSimpArgs false
namespace Go.Lq

theorem joinP_inter (sep : Bs) : ∀ xs : List Bs, Go.Lib.join xs sep = joinP sep xs
  | [] => rfl
  | [x] => by simp [Go.Lib.join, List.intercalate, joinP]
  | x :: y :: r => by
    have ih := joinP_inter sep (y :: r)
    unfold Go.Lib.join List.intercalate at ih ⊢
    rw [joinP, ← ih]
    simp
theorem joinP_len (sep : Bs) (B : Nat) : ∀ xs : List Bs, (∀ x ∈ xs, x.length ≤ B) → (joinP sep xs).length ≤ xs.length * (B + sep.length)
  | [], _ => by simp [joinP]
  | [x], h => by
    have := h x (by simp)
    simp [joinP]
    omega
  | x :: y :: r, h => by
    have ih := joinP_len sep B (y :: r) (fun z hz => h z (by simp_all))
    have := h x (by simp)
    rw [joinP, List.length_append, List.length_append, List.length_cons, Nat.add_mul]
    omega
end Go.Lq
namespace Go.Lq
theorem joinP_flat (sep : Bs) : ∀ (x : Bs) (r : List Bs), joinP sep (x :: r) = x ++ r.flatMap (sep ++ ·)
  | x, [] => by simp [joinP]
  | x, y :: r => by
    rw [joinP, joinP_flat sep y r, List.flatMap_cons]
    simp
/-- One matcher's text as the reference puts it behind what stands there. -/
def commaP : List Mt → Bs
  | [] => []
  | m :: l => 44 :: 32 :: (mtText m ++ commaP l)
theorem matchText_cons (m : Mt) (l : List Mt) : matchText (m :: l) = 123 :: (mtText m ++ (commaP l ++ [125])) := by
  unfold matchText
  rw [List.map_cons, joinP_flat]
  have : ∀ l : List Mt, (l.map mtText).flatMap (([44, 32] : Bs) ++ ·) = commaP l := by
    intro l
    induction l with
    | nil => rfl
    | cons x l ih => rw [List.map_cons, List.flatMap_cons, ih]; simp [commaP]
  rw [this]
  simp
theorem commaP_snoc (l : List Mt) (m : Mt) : commaP (l ++ [m]) = commaP l ++ 44 :: 32 :: mtText m := by
  induction l with
  | nil => simp [commaP]
  | cons x l ih => simp [commaP, ih]
/-- The matchers' text but for its last brace, so many of them. -/
def openP : List Mt → Bs
  | [] => [123]
  | m :: l => 123 :: (mtText m ++ commaP l)
theorem openP_text (l : List Mt) : openP l ++ [125] = matchText l := by
  cases l with
  | nil => rfl
  | cons m l => rw [matchText_cons]; simp [openP]
theorem openP_snoc (l : List Mt) (m : Mt) : openP (l ++ [m]) = openP l ++ ((if l = [] then [] else [44, 32]) ++ mtText m) := by
  cases l with
  | nil => simp [openP, commaP]
  | cons x l => simp [openP, commaP_snoc]
/-- A test's text as the reference writes it: a blank ahead. -/
def testR (m : Mt) : Bs := 32 :: testText m
def testsR (l : List Mt) : Bs := l.flatMap testR
theorem testsR_snoc (l : List Mt) (m : Mt) : testsR (l ++ [m]) = testsR l ++ testR m := by simp [testsR]
def levelR (q : Qy) : Bs := if q.level ≠ 0 then 32 :: levelText q.level else []
def limitR (q : Qy) : Bs := if q.limit ≠ 0 then 32 :: limitText q.limit else []
theorem textP_ref (q : Qy) : textP q = matchText q.mat ++ (levelR q ++ (testsR q.tests ++ limitR q)) := by
  unfold textP partsP
  rw [joinP_flat]
  congr 1
  have h : (q.tests.map testText).flatMap (([32] : Bs) ++ ·) = testsR q.tests := by
    unfold testsR
    generalize q.tests = l
    induction l with
    | nil => rfl
    | cons x l ih => rw [List.map_cons, List.flatMap_cons, List.flatMap_cons, ih]; rfl
  rw [List.flatMap_append, List.flatMap_append, h]
  unfold levelR limitR
  by_cases h1 : q.level ≠ 0
  · by_cases h2 : q.limit ≠ 0
    · simp [h1, h2]
    · simp [h1, h2]
  · by_cases h2 : q.limit ≠ 0
    · simp [h1, h2]
    · simp [h1, h2]
end Go.Lq
