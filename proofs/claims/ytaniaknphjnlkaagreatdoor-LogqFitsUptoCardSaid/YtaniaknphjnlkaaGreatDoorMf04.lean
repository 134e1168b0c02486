/- What is left is shorter (plain). -/
import Derived.Test.YtaniaknphjnlkaaGreatDoorLqPure
namespace Go.Lq

theorem skipL_le (l : Bs) : (skipL l).length ≤ l.length := by
  unfold skipL
  exact (List.dropWhile_suffix _).length_le
theorem takeL_len {t l r : Bs} (h : takeL t l = some r) : r.length + t.length = l.length := by
  unfold takeL at h
  split at h
  · rename_i hp
    have hp := (List.isPrefixOf_iff_prefix.1 hp).length_le
    obtain rfl := Option.some.inj h
    simp; omega
  · cases h
theorem quotedBody_len : ∀ (n : Nat) (acc l v r : Bs), l.length ≤ n → quotedBody acc l = .ok v r → r.length < l.length := by
  intro n
  induction n with
  | zero =>
    intro acc l v r hl h
    cases l with
    | nil => simp [quotedBody] at h
    | cons c cs => simp at hl
  | succ n ih =>
    intro acc l v r hl h
    cases l with
    | nil => simp [quotedBody] at h
    | cons c cs =>
      rw [quotedBody.eq_def] at h
      dsimp only at h
      simp only [List.length_cons] at hl ⊢
      split at h
      · cases h; omega
      · split at h
        · cases h
        · split at h
          · split at h
            · cases h
            · rename_i d ds
              simp only [List.length_cons] at hl ⊢
              split at h
              · have := ih _ ds v r (by omega) h; omega
              · split at h
                · have := ih _ ds v r (by omega) h; omega
                · split at h
                  · have := ih _ ds v r (by omega) h; omega
                  · cases h
          · have := ih _ cs v r (by omega) h; omega
theorem quotedL_len {l v r : Bs} (h : quotedL l = .ok v r) : r.length < l.length := by
  unfold quotedL at h
  have := skipL_le l
  split at h
  · cases h
  · rename_i c cs hs
    rw [hs] at this
    split at h
    · have := quotedBody_len _ _ _ _ _ (Nat.le_refl _) h
      simp at *; omega
    · cases h
theorem keyL_len {l v r : Bs} (h : keyL l = .ok v r) : r.length < l.length ∧ v ≠ [] := by
  unfold keyL at h
  have := skipL_le l
  split at h
  · cases h
  · rename_i c cs hs
    rw [hs] at this
    split at h
    · cases h
      have := (List.dropWhile_suffix isTail (l := cs)).length_le
      simp at *; omega
    · cases h
theorem opL_len {l r : Bs} {n : Int} (h : opL l = .ok n r) : r.length ≤ l.length := by
  unfold opL at h
  have := skipL_le l
  repeat' split at h
  all_goals
    first
    | (cases h; (first | omega | (have := takeL_len (by assumption); omega)))
    | (cases h)
theorem numberL_le {most : Int} {l r : Bs} {n : Int} (h : numberL most l = .ok n r) : r.length ≤ l.length := by
  unfold numberL at h
  dsimp only at h
  split at h
  · cases h
  · cases h
    have := (List.dropWhile_suffix isDigit (l := skipL l)).length_le
    have := skipL_le l
    omega
theorem skip_skip (l : Bs) : skipL (skipL l) = skipL l := by
  unfold skipL
  induction l with
  | nil => rfl
  | cons c cs ih =>
    rw [List.dropWhile_cons]
    by_cases h : isBlank c = true
    · rw [if_pos h]; exact ih
    · rw [if_neg h, List.dropWhile_cons, if_neg h]
theorem keyedL_len {q q' : Qy} {l r : Bs} (h : keyedL q l = .ok q' r) : r.length < l.length := by
  unfold keyedL at h
  dsimp only at h
  have h0 := skipL_le l
  cases hk : keyL (skipL l) with
  | bad x => rw [hk] at h; cases h
  | ok k l1 =>
    rw [hk] at h
    dsimp only at h
    have h1 := (keyL_len hk).1
    cases ho : opL l1 with
    | bad x => rw [ho] at h; cases h
    | ok n l2 =>
      rw [ho] at h
      dsimp only at h
      have h2 := opL_len ho
      split at h
      · cases hq : quotedL l2 with
        | bad x => rw [hq] at h; cases h
        | ok v l3 =>
          rw [hq] at h
          have := quotedL_len hq
          cases h
          omega
      · split at h
        · split at h
          · cases h
          · cases hn : numberL 24 l2 with
            | bad x => rw [hn] at h; cases h
            | ok v l3 =>
              rw [hn] at h
              have := numberL_le hn
              cases h
              omega
        · split at h
          · split at h
            · cases h
            · cases hn : numberL 1000 l2 with
              | bad x => rw [hn] at h; cases h
              | ok v l3 =>
                rw [hn] at h
                have := numberL_le hn
                cases h
                omega
          · cases h
/-- A test without a key. -/
def stepQ (q : Qy) (op : Int) : PR Bs → PR Qy
  | .ok v r => .ok { q with tests := q.tests ++ [⟨op, [], v⟩] } r
  | .bad r => .bad r
theorem stepQ_len {q q' : Qy} {op : Int} {l r : Bs} (h : stepQ q op (quotedL l) = .ok q' r) : r.length < l.length := by
  cases hq : quotedL l with
  | bad x => rw [hq] at h; cases h
  | ok v l3 =>
    rw [hq] at h
    have := quotedL_len hq
    cases h
    omega
/-- A step by its sign. -/
theorem stepL_cases (q : Qy) (l : Bs) : stepL q l = match takeL [124, 61] l with
    | some r => stepQ q 3 (quotedL r)
    | none => match takeL [33, 61] l with
      | some r => stepQ q 4 (quotedL r)
      | none => match takeL [124] l with
        | some r => keyedL q r
        | none => match takeL [33] l with
          | some r => .bad r
          | none => .bad l := by
  unfold stepL
  cases takeL [124, 61] l with
  | some r => dsimp only; cases quotedL r <;> rfl
  | none => cases takeL [33, 61] l with
    | some r => dsimp only; cases quotedL r <;> rfl
    | none => rfl
theorem stepsLoop_skip (f : Nat) (q : Qy) (l : Bs) : stepsLoop f q (skipL l) = stepsLoop f q l := by
  cases f with
  | zero => rfl
  | succ f => unfold stepsLoop; rw [skip_skip]
theorem stepsLoop_cons {f : Nat} {q : Qy} {l : Bs} {c : UInt8} {cs : Bs} (h : skipL l = c :: cs) : stepsLoop (f + 1) q l = match stepL q (c :: cs) with
    | .bad r => .bad r
    | .ok q' r => stepsLoop f q' r := by
  rw [stepsLoop]
  rw [h]
  rfl
theorem stepsLoop_nil {f : Nat} {q : Qy} {l : Bs} (h : skipL l = []) : stepsLoop (f + 1) q l = .ok q [] := by
  rw [stepsLoop]
  rw [h]
end Go.Lq
namespace Go.Lq

def isQ (c : UInt8) : Bool := c == 34 || c == 92 || c == 10
theorem esc_len (c : UInt8) : (esc c).length = 1 + (if isQ c then 1 else 0) := by
  unfold esc isQ
  by_cases h1 : c = 34
  · subst h1; rfl
  · by_cases h2 : c = 92
    · subst h2; rfl
    · by_cases h3 : c = 10
      · subst h3; rfl
      · simp [h1, h2, h3]
theorem flat_len (l : Bs) : (l.flatMap esc).length = l.length + l.countP isQ := by
  induction l with
  | nil => rfl
  | cons c cs ih =>
    rw [List.flatMap_cons, List.length_append, ih, esc_len, List.countP_cons, List.length_cons]
    omega
theorem esc_plain {c : UInt8} (h : isQ c = false) : esc c = [c] := by
  simp [isQ] at h
  simp [esc, h.1.1, h.1.2, h.2]
theorem flat_id {l : Bs} (h : l.countP isQ = 0) : l.flatMap esc = l := by
  induction l with
  | nil => rfl
  | cons c cs ih =>
    rw [List.countP_cons] at h
    have h1 : isQ c = false := by
      cases hc : isQ c with
      | false => rfl
      | true => rw [hc] at h; simp at h
    rw [List.flatMap_cons, esc_plain h1, ih (by omega)]
    rfl
theorem count3 (l : Bs) : l.countP isQ = l.count 10 + (l.count 92 + l.count 34) := by
  induction l with
  | nil => rfl
  | cons c cs ih =>
    rw [List.countP_cons, ih, List.count_cons, List.count_cons, List.count_cons]
    by_cases h1 : c = 34
    · subst h1; simp [isQ]; omega
    · by_cases h2 : c = 92
      · subst h2; simp [isQ]; omega
      · by_cases h3 : c = 10
        · subst h3; simp [isQ]; omega
        · simp [isQ, h1, h2, h3]
theorem take_flat (l : Bs) (i : Nat) (h : i < l.length) : (l.take (i + 1)).flatMap esc = (l.take i).flatMap esc ++ esc l[i] := by
  rw [List.take_add_one, List.getElem?_eq_getElem h, List.flatMap_append]
  simp
theorem take_count (l : Bs) (i : Nat) (h : i < l.length) : (l.take (i + 1)).countP isQ = (l.take i).countP isQ + (if isQ l[i] then 1 else 0) := by
  rw [List.take_add_one, List.getElem?_eq_getElem h, List.countP_append]
  simp [List.countP_cons]
end Go.Lq
