/- What is left is shorter (plain). -/
import Derived.Test.YtdhmloejgoacaaaGreatDoorLqPure
set_option linter.unusedVariables false
set_option linter.unusedSimpArgs false
namespace Go.Lq

theorem skipL_le (l : Bs) : (skipL l).length ≤ l.length := by
  unfold skipL
  exact (List.dropWhile_suffix _).length_le
theorem takeL_len {t l r : Bs} (h : takeL t l = some r) : r.length + t.length = l.length := by
  unfold takeL at h
  split at h
  · rename_i hp
    have hp := (List.isPrefixOf_iff_prefix.1 hp).length_le
    obtain rfl := Option.some.inj h
    simp; omega
  · cases h
theorem quotedBody_len : ∀ (n : Nat) (acc l v r : Bs), l.length ≤ n → quotedBody acc l = .ok v r → r.length < l.length := by
  intro n
  induction n with
  | zero =>
    intro acc l v r hl h
    cases l with
    | nil => simp [quotedBody] at h
    | cons c cs => simp at hl
  | succ n ih =>
    intro acc l v r hl h
    cases l with
    | nil => simp [quotedBody] at h
    | cons c cs =>
      rw [quotedBody.eq_def] at h
      dsimp only at h
      simp only [List.length_cons] at hl ⊢
      split at h
      · cases h; omega
      · split at h
        · cases h
        · split at h
          · split at h
            · cases h
            · rename_i d ds
              simp only [List.length_cons] at hl ⊢
              split at h
              · have := ih _ ds v r (by omega) h; omega
              · split at h
                · have := ih _ ds v r (by omega) h; omega
                · split at h
                  · have := ih _ ds v r (by omega) h; omega
                  · cases h
          · have := ih _ cs v r (by omega) h; omega
theorem quotedL_len {l v r : Bs} (h : quotedL l = .ok v r) : r.length < l.length := by
  unfold quotedL at h
  have := skipL_le l
  split at h
  · cases h
  · rename_i c cs hs
    rw [hs] at this
    split at h
    · have := quotedBody_len _ _ _ _ _ (Nat.le_refl _) h
      simp at *; omega
    · cases h
theorem keyL_len {l v r : Bs} (h : keyL l = .ok v r) : r.length < l.length ∧ v ≠ [] := by
  unfold keyL at h
  have := skipL_le l
  split at h
  · cases h
  · rename_i c cs hs
    rw [hs] at this
    split at h
    · cases h
      have := (List.dropWhile_suffix isTail (l := cs)).length_le
      simp at *; omega
    · cases h
theorem opL_len {l r : Bs} {n : Int} (h : opL l = .ok n r) : r.length ≤ l.length := by
  unfold opL at h
  have := skipL_le l
  repeat' split at h
  all_goals
    first
    | (cases h; (first | omega | (have := takeL_len (by assumption); omega)))
    | (cases h)
theorem numberL_le {most : Int} {l r : Bs} {n : Int} (h : numberL most l = .ok n r) : r.length ≤ l.length := by
  unfold numberL at h
  dsimp only at h
  split at h
  · cases h
  · cases h
    have := (List.dropWhile_suffix isDigit (l := skipL l)).length_le
    have := skipL_le l
    omega
theorem skip_skip (l : Bs) : skipL (skipL l) = skipL l := by
  unfold skipL
  induction l with
  | nil => rfl
  | cons c cs ih =>
    rw [List.dropWhile_cons]
    by_cases h : isBlank c = true
    · rw [if_pos h]; exact ih
    · rw [if_neg h, List.dropWhile_cons, if_neg h]
theorem keyedL_len {q q' : Qy} {l r : Bs} (h : keyedL q l = .ok q' r) : r.length < l.length := by
  unfold keyedL at h
  dsimp only at h
  have h0 := skipL_le l
  cases hk : keyL (skipL l) with
  | bad x => rw [hk] at h; cases h
  | ok k l1 =>
    rw [hk] at h
    dsimp only at h
    have h1 := (keyL_len hk).1
    cases ho : opL l1 with
    | bad x => rw [ho] at h; cases h
    | ok n l2 =>
      rw [ho] at h
      dsimp only at h
      have h2 := opL_len ho
      split at h
      · cases hq : quotedL l2 with
        | bad x => rw [hq] at h; cases h
        | ok v l3 =>
          rw [hq] at h
          have := quotedL_len hq
          cases h
          omega
      · split at h
        · split at h
          · cases h
          · cases hn : numberL 24 l2 with
            | bad x => rw [hn] at h; cases h
            | ok v l3 =>
              rw [hn] at h
              have := numberL_le hn
              cases h
              omega
        · split at h
          · split at h
            · cases h
            · cases hn : numberL 1000 l2 with
              | bad x => rw [hn] at h; cases h
              | ok v l3 =>
                rw [hn] at h
                have := numberL_le hn
                cases h
                omega
          · cases h
/-- A test without a key. -/
def stepQ (q : Qy) (op : Int) : PR Bs → PR Qy
  | .ok v r => .ok { q with tests := q.tests ++ [⟨op, [], v⟩] } r
  | .bad r => .bad r
theorem stepQ_len {q q' : Qy} {op : Int} {l r : Bs} (h : stepQ q op (quotedL l) = .ok q' r) : r.length < l.length := by
  cases hq : quotedL l with
  | bad x => rw [hq] at h; cases h
  | ok v l3 =>
    rw [hq] at h
    have := quotedL_len hq
    cases h
    omega
/-- A step by its sign. -/
theorem stepL_cases (q : Qy) (l : Bs) : stepL q l = match takeL [124, 61] l with
    | some r => stepQ q 3 (quotedL r)
    | none => match takeL [33, 61] l with
      | some r => stepQ q 4 (quotedL r)
      | none => match takeL [124] l with
        | some r => keyedL q r
        | none => match takeL [33] l with
          | some r => .bad r
          | none => .bad l := by
  unfold stepL
  cases takeL [124, 61] l with
  | some r => dsimp only; cases quotedL r <;> rfl
  | none => cases takeL [33, 61] l with
    | some r => dsimp only; cases quotedL r <;> rfl
    | none => rfl
theorem stepsLoop_skip (f : Nat) (q : Qy) (l : Bs) : stepsLoop f q (skipL l) = stepsLoop f q l := by
  cases f with
  | zero => rfl
  | succ f => unfold stepsLoop; rw [skip_skip]
theorem stepsLoop_cons {f : Nat} {q : Qy} {l : Bs} {c : UInt8} {cs : Bs} (h : skipL l = c :: cs) : stepsLoop (f + 1) q l = match stepL q (c :: cs) with
    | .bad r => .bad r
    | .ok q' r => stepsLoop f q' r := by
  rw [stepsLoop]
  rw [h]
  rfl
theorem stepsLoop_nil {f : Nat} {q : Qy} {l : Bs} (h : skipL l = []) : stepsLoop (f + 1) q l = .ok q [] := by
  rw [stepsLoop]
  rw [h]
end Go.Lq
namespace Go.Lq

def isQ (c : UInt8) : Bool := c == 34 || c == 92 || c == 10
theorem esc_len (c : UInt8) : (esc c).length = 1 + (if isQ c then 1 else 0) := by
  unfold esc isQ
  by_cases h1 : c = 34
  · subst h1; rfl
  · by_cases h2 : c = 92
    · subst h2; rfl
    · by_cases h3 : c = 10
      · subst h3; rfl
      · simp [h1, h2, h3]
theorem flat_len (l : Bs) : (l.flatMap esc).length = l.length + l.countP isQ := by
  induction l with
  | nil => rfl
  | cons c cs ih =>
    rw [List.flatMap_cons, List.length_append, ih, esc_len, List.countP_cons, List.length_cons]
    omega
theorem esc_plain {c : UInt8} (h : isQ c = false) : esc c = [c] := by
  simp [isQ] at h
  simp [esc, h.1.1, h.1.2, h.2]
theorem flat_id {l : Bs} (h : l.countP isQ = 0) : l.flatMap esc = l := by
  induction l with
  | nil => rfl
  | cons c cs ih =>
    rw [List.countP_cons] at h
    have h1 : isQ c = false := by
      cases hc : isQ c with
      | false => rfl
      | true => rw [hc] at h; simp at h
    rw [List.flatMap_cons, esc_plain h1, ih (by omega)]
    rfl
theorem count3 (l : Bs) : l.countP isQ = l.count 10 + (l.count 92 + l.count 34) := by
  induction l with
  | nil => rfl
  | cons c cs ih =>
    rw [List.countP_cons, ih, List.count_cons, List.count_cons, List.count_cons]
    by_cases h1 : c = 34
    · subst h1; simp [isQ]; omega
    · by_cases h2 : c = 92
      · subst h2; simp [isQ]; omega
      · by_cases h3 : c = 10
        · subst h3; simp [isQ]; omega
        · simp [isQ, h1, h2, h3]
theorem take_flat (l : Bs) (i : Nat) (h : i < l.length) : (l.take (i + 1)).flatMap esc = (l.take i).flatMap esc ++ esc l[i] := by
  rw [List.take_add_one, List.getElem?_eq_getElem h, List.flatMap_append]
  simp
theorem take_count (l : Bs) (i : Nat) (h : i < l.length) : (l.take (i + 1)).countP isQ = (l.take i).countP isQ + (if isQ l[i] then 1 else 0) := by
  rw [List.take_add_one, List.getElem?_eq_getElem h, List.countP_append]
  simp [List.countP_cons]
end Go.Lq
namespace Go.Lq
theorem qb_nil (acc : Bs) : quotedBody acc [] = .bad [] := by rfl
theorem qb_cons (acc : Bs) (c : UInt8) (cs : Bs) : quotedBody acc (c :: cs) =
    if c = 34 then .ok acc cs else if c = 10 then .bad (c :: cs) else if c = 92 then
      match cs with
      | [] => .bad []
      | d :: ds =>
        if d = 34 then quotedBody (acc ++ [34]) ds else
        if d = 92 then quotedBody (acc ++ [92]) ds else
        if d = 110 then quotedBody (acc ++ [10]) ds else .bad (d :: ds)
    else quotedBody (acc ++ [c]) cs := by
  cases cs <;> rfl
theorem quotedBody_esc (v rest acc : Bs) : quotedBody acc (v.flatMap esc ++ 34 :: rest) = .ok (acc ++ v) rest := by
  induction v generalizing acc with
  | nil => simp [qb_cons]
  | cons c v ih =>
    rw [List.flatMap_cons, List.append_assoc]
    by_cases h1 : c = 34
    · subst h1
      rw [show esc 34 = [92, 34] from rfl]
      simp only [List.cons_append, List.nil_append]
      rw [qb_cons]
      simp [ih]
    by_cases h2 : c = 92
    · subst h2
      rw [show esc 92 = [92, 92] from rfl]
      simp only [List.cons_append, List.nil_append]
      rw [qb_cons]
      simp [ih]
    by_cases h3 : c = 10
    · subst h3
      rw [show esc 10 = [92, 110] from rfl]
      simp only [List.cons_append, List.nil_append]
      rw [qb_cons]
      simp [ih]
    · rw [show esc c = [c] by simp [esc, h1, h2, h3]]
      simp only [List.cons_append, List.nil_append]
      rw [qb_cons]
      simp [h1, h2, h3, ih]
theorem skipL_of {c : UInt8} (h : isBlank c = false) (l : Bs) : skipL (c :: l) = c :: l := by unfold skipL; rw [List.dropWhile_cons]; simp [h]
theorem quotedL_quote (v rest : Bs) : quotedL (quoteP v ++ rest) = .ok v rest := by
  unfold quotedL quoteP
  rw [List.cons_append, skipL_of (by decide), List.append_assoc]
  simp only [if_true, List.cons_append, List.nil_append]
  rw [quotedBody_esc]; simp
theorem quotedL_blank (l : Bs) : quotedL (32 :: l) = quotedL l := by unfold quotedL skipL; rfl
theorem head_not_blank {c : UInt8} (h : isHead c = true) : isBlank c = false := by
  unfold isHead at h; unfold isBlank
  by_cases h1 : c = 32
  · subst h1; revert h; decide
  by_cases h2 : c = 9
  · subst h2; revert h; decide
  simp [h1, h2]
theorem takeWhile_all {p : UInt8 → Bool} {t : Bs} (h : t.all p = true) {c : UInt8} (hc : p c = false) (rest : Bs) : (t ++ c :: rest).takeWhile p = t ∧ (t ++ c :: rest).dropWhile p = c :: rest := by
  induction t with
  | nil => simp [hc]
  | cons d t ih =>
    simp only [List.all_cons, Bool.and_eq_true] at h
    have := ih h.2
    simp [h.1, this.1, this.2]
theorem keyL_key {k : Bs} (h : keyP k = true) {c : UInt8} (hc : isTail c = false) (rest : Bs) : keyL (k ++ c :: rest) = .ok k (c :: rest) := by
  cases k with
  | nil => simp [keyP] at h
  | cons d t =>
    simp only [keyP, Bool.and_eq_true] at h
    unfold keyL
    rw [List.cons_append, skipL_of (head_not_blank h.1.2)]
    have := takeWhile_all h.2 hc rest
    simp only [h.1.2, if_true, this.1, this.2]
theorem opL_sign {n : Int} (h1 : 1 ≤ n) (h4 : n ≤ 4) (v rest : Bs) : opL (signP n ++ (quoteP v ++ rest)) = .ok n (quoteP v ++ rest) := by
  have hc : n = 1 ∨ n = 2 ∨ n = 3 ∨ n = 4 := by omega
  rcases hc with rfl | rfl | rfl | rfl <;> simp [signP, quoteP, opL, skipL, isBlank, takeL, List.isPrefixOf]
theorem takeL_cons (c : UInt8) (l : Bs) : takeL [c] (c :: l) = some l := by simp [takeL]
theorem takeL_ne {c d : UInt8} (h : ¬ c = d) (l : Bs) : takeL [c] (d :: l) = none := by simp [takeL, List.isPrefixOf, h]
theorem sign_head {n : Int} (h1 : 1 ≤ n) (h4 : n ≤ 4) (x : Bs) : ∃ c y, signP n ++ x = c :: y ∧ isTail c = false := by
  have hc : n = 1 ∨ n = 2 ∨ n = 3 ∨ n = 4 := by omega
  rcases hc with rfl | rfl | rfl | rfl
  · exact ⟨61, _, rfl, by decide⟩
  · exact ⟨33, _, rfl, by decide⟩
  · exact ⟨61, _, rfl, by decide⟩
  · exact ⟨33, _, rfl, by decide⟩
theorem keyL_mt {m : Mt} (hk : keyP m.key = true) (h1 : 1 ≤ m.op) (h4 : m.op ≤ 4) (rest : Bs) : keyL (mtText m ++ rest) = .ok m.key (signP m.op ++ (quoteP m.val ++ rest)) := by
  obtain ⟨c, y, hy, hc⟩ := sign_head h1 h4 (quoteP m.val ++ rest)
  unfold mtText
  rw [List.append_assoc, List.append_assoc, hy]
  exact keyL_key hk hc y
theorem keyL_blank (l : Bs) : keyL (32 :: l) = keyL l := by unfold keyL skipL; rfl
theorem matchLoop_step {m : Mt} (hk : keyP m.key = true) (h1 : 1 ≤ m.op) (h4 : m.op ≤ 4) (f : Nat) (acc : List Mt) (rest : Bs) :
    matchLoop (f + 1) acc (mtText m ++ rest) = match takeL [125] (skipL rest) with
      | some r => .ok (acc ++ [m]) r
      | none => match takeL [44] (skipL rest) with
        | some r => matchLoop f (acc ++ [m]) r
        | none => .bad (skipL rest) := by
  rw [matchLoop, keyL_mt hk h1 h4]
  simp only [opL_sign h1 h4, quotedL_quote]
  rw [if_neg (by omega)]
  rfl
theorem matchLoop_blank (f : Nat) (acc : List Mt) (l : Bs) : matchLoop f acc (32 :: l) = matchLoop f acc l := by
  cases f with
  | zero => rfl
  | succ f => rw [matchLoop, matchLoop, keyL_blank]
theorem skipL_cons34 (c : UInt8) (h : isBlank c = false) (l : Bs) : skipL (c :: l) = c :: l := skipL_of h l
theorem matchLoop_all (l : List Mt) (m : Mt) (hl : ∀ x ∈ m :: l, keyP x.key = true ∧ 1 ≤ x.op ∧ x.op ≤ 4) (f : Nat) (hf : l.length < f) (acc : List Mt) (rest : Bs) :
    matchLoop f acc (joinP [44, 32] ((m :: l).map mtText) ++ 125 :: rest) = .ok (acc ++ m :: l) rest := by
  induction l generalizing m f acc with
  | nil =>
    obtain ⟨f, rfl⟩ : ∃ g, f = g + 1 := ⟨f - 1, by omega⟩
    obtain ⟨h0, h1, h4⟩ := hl m (by simp)
    show matchLoop (f + 1) acc (mtText m ++ 125 :: rest) = _
    rw [matchLoop_step h0 h1 h4, skipL_of (by decide), takeL_cons]
  | cons k l ih =>
    obtain ⟨f, rfl⟩ : ∃ g, f = g + 1 := ⟨f - 1, by omega⟩
    obtain ⟨h0, h1, h4⟩ := hl m (by simp)
    show matchLoop (f + 1) acc ((mtText m ++ ([44, 32] ++ joinP [44, 32] ((k :: l).map mtText))) ++ 125 :: rest) = _
    rw [List.append_assoc, List.append_assoc]
    rw [matchLoop_step h0 h1 h4]
    simp only [List.cons_append, List.nil_append]
    rw [skipL_of (by decide), takeL_ne (by decide), takeL_cons]
    simp only
    rw [matchLoop_blank, ih k (fun x hx => hl x (by simp at hx ⊢; exact .inr hx)) f (by simp at hf; omega)]
    simp
theorem joinP_length (m : Mt) (l : List Mt) : l.length ≤ (joinP [44, 32] ((m :: l).map mtText)).length := by
  induction l generalizing m with
  | nil => simp
  | cons k l ih =>
    show _ ≤ (mtText m ++ ([44, 32] ++ joinP [44, 32] ((k :: l).map mtText))).length
    have := ih k
    simp only [List.length_append, List.length_cons] at this ⊢
    omega
theorem join_head {m : Mt} (hk : keyP m.key = true) (l : List Mt) (x : Bs) : ∃ c y, joinP [44, 32] ((m :: l).map mtText) ++ x = c :: y ∧ isHead c = true := by
  obtain ⟨c, t, hc⟩ : ∃ c t, m.key = c :: t := by
    cases h : m.key with
    | nil => rw [h] at hk; simp [keyP] at hk
    | cons c t => exact ⟨c, t, rfl⟩
  have hh : isHead c = true := by
    rw [hc] at hk
    simp only [keyP, Bool.and_eq_true] at hk
    exact hk.1.2
  cases l with
  | nil => exact ⟨c, t ++ (signP m.op ++ quoteP m.val) ++ x, by show mtText m ++ x = _; simp [mtText, hc], hh⟩
  | cons k l => exact ⟨c, _, by show (mtText m ++ ([44, 32] ++ joinP [44, 32] ((k :: l).map mtText))) ++ x = _; rw [mtText, hc]; rfl, hh⟩
theorem matchL_text (l : List Mt) (hl : ∀ x ∈ l, keyP x.key = true ∧ 1 ≤ x.op ∧ x.op ≤ 4) (rest : Bs) : matchL (matchText l ++ rest) = .ok l rest := by
  unfold matchL matchText
  rw [List.cons_append, skipL_of (by decide), takeL_cons]
  cases l with
  | nil =>
    simp only [List.map_nil, joinP, List.nil_append, List.cons_append]
    rw [skipL_of (by decide), takeL_cons]
  | cons m l =>
    simp only [List.append_assoc, List.cons_append, List.nil_append]
    obtain ⟨c, y, hy, hc⟩ := join_head (hl m (by simp)).1 l (125 :: rest)
    have hs : skipL (joinP [44, 32] ((m :: l).map mtText) ++ 125 :: rest) = joinP [44, 32] ((m :: l).map mtText) ++ 125 :: rest := by
      rw [hy, skipL_of (head_not_blank hc)]
    have hn : takeL [125] (joinP [44, 32] ((m :: l).map mtText) ++ 125 :: rest) = none := by
      rw [hy]
      exact takeL_ne (by rintro rfl; revert hc; decide) y
    simp only [hs, hn]
    have := joinP_length m l
    rw [matchLoop_all l m hl _ (by simp only [List.length_cons, List.length_append]; omega)]
    rfl
theorem digit_ofNat {k : Nat} (h : k < 10) : isDigit (UInt8.ofNat (48 + k)) = true ∧ (UInt8.ofNat (48 + k)).toNat = 48 + k := by
  have : k = 0 ∨ k = 1 ∨ k = 2 ∨ k = 3 ∨ k = 4 ∨ k = 5 ∨ k = 6 ∨ k = 7 ∨ k = 8 ∨ k = 9 := by omega
  rcases this with rfl | rfl | rfl | rfl | rfl | rfl | rfl | rfl | rfl | rfl <;> decide
theorem numOf_append (a : Bs) (c : UInt8) : numOf (a ++ [c]) = numOf a * 10 + (c.toNat - 48) := by simp [numOf]
theorem digs_spec (n : Nat) : (digs n).all isDigit = true ∧ numOf (digs n) = n ∧ digs n ≠ [] ∧ (0 < n → (digs n).head? ≠ some 48) := by
  induction n using Nat.strongRecOn with
  | _ n ih =>
    rw [digs]
    by_cases h : n < 10
    · rw [if_pos h]
      have := digit_ofNat h
      refine ⟨by simp only [List.all_cons, this.1, List.all_nil, Bool.and_self], by simp only [numOf, List.foldl_cons, List.foldl_nil, this.2]; omega, by simp, fun hp => ?_⟩
      simp only [List.head?_cons, ne_eq, Option.some.injEq]
      intro e
      have e2 := congrArg UInt8.toNat e
      rw [this.2] at e2
      simp at e2
      omega
    · rw [if_neg h]
      obtain ⟨i1, i2, i3, i4⟩ := ih (n / 10) (by omega)
      have := digit_ofNat (k := n % 10) (by omega)
      refine ⟨by simp only [List.all_append, i1, List.all_cons, this.1, List.all_nil, Bool.and_self], ?_, by simp, fun _ => ?_⟩
      · rw [numOf_append, i2, this.2]
        omega
      · cases hd : digs (n / 10) with
        | nil => exact absurd hd i3
        | cons c t =>
          rw [hd] at i4
          simpa using i4 (by omega)
theorem takeWhile_end {p : UInt8 → Bool} {t r : Bs} (h : t.all p = true) (hr : ∀ c ∈ r.head?, p c = false) : (t ++ r).takeWhile p = t ∧ (t ++ r).dropWhile p = r := by
  cases r with
  | nil =>
    clear hr
    induction t with
    | nil => simp
    | cons d t ih =>
      simp only [List.all_cons, Bool.and_eq_true] at h
      have := ih h.2
      simp only [List.cons_append, List.takeWhile_cons, List.dropWhile_cons, h.1, if_true, this.1, this.2, and_self]
  | cons c r => exact takeWhile_all h (hr c (by simp)) r
theorem numberL_digs {n : Nat} {most : Int} (hn : 0 < n) (hm : (n : Int) ≤ most) {rest : Bs} (hr : ∀ c ∈ rest.head?, isDigit c = false) : numberL most (32 :: (digs n ++ rest)) = .ok (n : Int) rest := by
  obtain ⟨d1, d2, d3, d4⟩ := digs_spec n
  have hs : skipL (32 :: (digs n ++ rest)) = digs n ++ rest := by
    show skipL (digs n ++ rest) = _
    cases hd : digs n with
    | nil => exact absurd hd d3
    | cons c t =>
      rw [hd] at d1
      simp only [List.all_cons, Bool.and_eq_true] at d1
      refine skipL_of ?_ _
      have h1 := d1.1
      unfold isDigit at h1
      unfold isBlank
      by_cases e1 : c = 32
      · subst e1; revert h1; decide
      by_cases e2 : c = 9
      · subst e2; revert h1; decide
      simp [e1, e2]
  have ht := takeWhile_end d1 hr
  unfold numberL
  simp only [hs, ht.1, ht.2, d2]
  rw [if_neg]
  rintro (h | h | h)
  · exact d3 h
  · exact d4 hn h
  · omega
theorem skipL_skipL (l : Bs) : skipL (skipL l) = skipL l := by
  induction l with
  | nil => rfl
  | cons c l ih =>
    by_cases h : isBlank c = true
    · have : skipL (c :: l) = skipL l := by unfold skipL; rw [List.dropWhile_cons, if_pos h]
      rw [this, ih]
    · have : skipL (c :: l) = c :: l := skipL_of (by simpa using h) l
      rw [this, this]
/-- A test's text, behind a blank, is one step. -/
theorem stepL_test {q : Qy} {m : Mt} (hm : (m.key ≠ [] ∧ keyP m.key = true ∧ 1 ≤ m.op ∧ m.op ≤ 4) ∨ (m.key = [] ∧ (m.op = 3 ∨ m.op = 4))) (rest : Bs) :
    stepL q (testText m ++ rest) = .ok { q with tests := q.tests ++ [m] } rest := by
  rcases hm with ⟨h0, hk, h1, h4⟩ | ⟨h0, h3⟩
  · unfold testText
    rw [if_pos h0]
    unfold stepL
    have e1 : takeL [124, 61] (124 :: 32 :: mtText m ++ rest) = none := by simp [takeL, List.isPrefixOf]
    have e2 : takeL [33, 61] (124 :: 32 :: mtText m ++ rest) = none := by simp [takeL, List.isPrefixOf]
    have e3 : takeL [124] (124 :: 32 :: mtText m ++ rest) = some (32 :: mtText m ++ rest) := by simp [takeL]
    simp only [e1, e2, e3]
    unfold keyedL
    have hs : keyL (skipL (32 :: mtText m ++ rest)) = .ok m.key (signP m.op ++ (quoteP m.val ++ rest)) := by
      have := keyL_mt (rest := rest) hk h1 h4
      unfold keyL at this ⊢
      have hsk : skipL (skipL (32 :: mtText m ++ rest)) = skipL (mtText m ++ rest) := by
        show skipL (skipL (mtText m ++ rest)) = _
        exact skipL_skipL _
      rw [hsk]
      exact this
    simp only [hs, opL_sign h1 h4, quotedL_quote]
    rw [if_pos (by omega)]
  · unfold testText
    rw [if_neg (by simp [h0])]
    unfold stepL
    obtain ⟨o, k, v⟩ := m
    simp only at h0 h3
    subst h0
    rcases h3 with rfl | rfl
    · have e1 : takeL [124, 61] (([124, 61, 32] ++ quoteP v) ++ rest) = some (32 :: (quoteP v ++ rest)) := by simp [takeL]
      simp only [if_true, e1, quotedL_blank, quotedL_quote]
    · have e1 : takeL [124, 61] (([33, 61, 32] ++ quoteP v) ++ rest) = none := by simp [takeL, List.isPrefixOf]
      have e2 : takeL [33, 61] (([33, 61, 32] ++ quoteP v) ++ rest) = some (32 :: (quoteP v ++ rest)) := by simp [takeL]
      rw [if_neg (by show ¬ (4 : Int) = 3; decide)]
      simp only [e1, e2, quotedL_blank, quotedL_quote]
theorem numberL_skip (most : Int) (l : Bs) : numberL most (skipL l) = numberL most l := by
  unfold numberL
  rw [skipL_skipL]
theorem opL_digit {c : UInt8} (h : isDigit c = true) (l : Bs) : opL (32 :: c :: l) = .ok 0 (c :: l) := by
  have hb : isBlank c = false := by
    unfold isDigit at h
    unfold isBlank
    by_cases e1 : c = 32
    · subst e1; revert h; decide
    by_cases e2 : c = 9
    · subst e2; revert h; decide
    simp [e1, e2]
  have h61 : ¬ (61 = c) := by rintro rfl; revert h; decide
  have h33 : ¬ (33 = c) := by rintro rfl; revert h; decide
  have hs : skipL (32 :: c :: l) = c :: l := by show skipL (c :: l) = _; exact skipL_of hb l
  unfold opL
  simp only [hs]
  simp [takeL, List.isPrefixOf, h61, h33]
theorem keyed_num {q : Qy} {wd : Bs} (hw : keyP wd = true) {n : Nat} (hn : 0 < n) (rest : Bs) :
    ∃ l0 l2, skipL (32 :: (wd ++ 32 :: (digs n ++ rest))) = l0 ∧ keyL l0 = .ok wd (32 :: (digs n ++ rest)) ∧ opL (32 :: (digs n ++ rest)) = .ok 0 l2 ∧ l2 = digs n ++ rest := by
  obtain ⟨d1, d2, d3, d4⟩ := digs_spec n
  refine ⟨skipL (wd ++ 32 :: (digs n ++ rest)), digs n ++ rest, rfl, ?_, ?_, rfl⟩
  · have := keyL_key hw (c := 32) (by decide) (digs n ++ rest)
    unfold keyL at this ⊢
    rw [skipL_skipL]
    exact this
  · cases hd : digs n with
    | nil => exact absurd hd d3
    | cons c t =>
      rw [hd] at d1
      simp only [List.all_cons, Bool.and_eq_true] at d1
      exact opL_digit d1.1 _
theorem numberL_digs' {n : Nat} {most : Int} (hn : 0 < n) (hm : (n : Int) ≤ most) {rest : Bs} (hr : ∀ c ∈ rest.head?, isDigit c = false) : numberL most (digs n ++ rest) = .ok (n : Int) rest := by
  have := numberL_digs hn hm hr
  rw [← numberL_skip] at this
  rw [← numberL_skip]
  exact this
theorem stepL_level {q : Qy} (hq : q.level = 0) {n : Nat} (hn : 0 < n) (hm : n ≤ 24) {rest : Bs} (hr : ∀ c ∈ rest.head?, isDigit c = false) :
    stepL q (124 :: 32 :: (wLevel ++ 32 :: (digs n ++ rest))) = .ok { q with level := (n : Int) } rest := by
  obtain ⟨l0, l2, e0, e1, e2, e3⟩ := keyed_num (q := q) (wd := wLevel) (by decide) hn rest
  subst e3
  unfold stepL
  have t1 : takeL [124, 61] (124 :: 32 :: (wLevel ++ 32 :: (digs n ++ rest))) = none := by simp [takeL, List.isPrefixOf]
  have t2 : takeL [33, 61] (124 :: 32 :: (wLevel ++ 32 :: (digs n ++ rest))) = none := by simp [takeL, List.isPrefixOf]
  have t3 : takeL [124] (124 :: 32 :: (wLevel ++ 32 :: (digs n ++ rest))) = some (32 :: (wLevel ++ 32 :: (digs n ++ rest))) := by simp [takeL]
  simp only [t1, t2, t3]
  unfold keyedL
  simp only [e0, e1, e2]
  simp only [hq, numberL_digs' hn (show (n : Int) ≤ 24 by omega) hr, if_true, ne_eq, not_true_eq_false, if_false]
theorem stepL_limit {q : Qy} (hq : q.limit = 0) {n : Nat} (hn : 0 < n) (hm : n ≤ 1000) {rest : Bs} (hr : ∀ c ∈ rest.head?, isDigit c = false) :
    stepL q (124 :: 32 :: (wLimit ++ 32 :: (digs n ++ rest))) = .ok { q with limit := (n : Int) } rest := by
  obtain ⟨l0, l2, e0, e1, e2, e3⟩ := keyed_num (q := q) (wd := wLimit) (by decide) hn rest
  subst e3
  unfold stepL
  have t1 : takeL [124, 61] (124 :: 32 :: (wLimit ++ 32 :: (digs n ++ rest))) = none := by simp [takeL, List.isPrefixOf]
  have t2 : takeL [33, 61] (124 :: 32 :: (wLimit ++ 32 :: (digs n ++ rest))) = none := by simp [takeL, List.isPrefixOf]
  have t3 : takeL [124] (124 :: 32 :: (wLimit ++ 32 :: (digs n ++ rest))) = some (32 :: (wLimit ++ 32 :: (digs n ++ rest))) := by simp [takeL]
  simp only [t1, t2, t3]
  unfold keyedL
  simp only [e0, e1, e2]
  have hne : ¬ wLimit = wLevel := by decide
  simp only [hq, hne, numberL_digs' hn (show (n : Int) ≤ 1000 by omega) hr, if_true, ne_eq, not_true_eq_false, if_false]
/-! ### All steps -/
def tailP : List Bs → Bs
  | [] => []
  | p :: ps => 32 :: (p ++ tailP ps)
theorem joinP_tail (x : Bs) (ps : List Bs) : joinP [32] (x :: ps) = x ++ tailP ps := by
  induction ps generalizing x with
  | nil => simp [joinP, tailP]
  | cons p ps ih =>
    show x ++ ([32] ++ joinP [32] (p :: ps)) = _
    rw [ih p]
    rfl
theorem tailP_append (a b : List Bs) : tailP (a ++ b) = tailP a ++ tailP b := by
  induction a with
  | nil => rfl
  | cons p a ih => simp [tailP, ih]
theorem tailP_head (ps : List Bs) : ∀ c ∈ (tailP ps).head?, isDigit c = false := by
  cases ps with
  | nil => simp [tailP]
  | cons p ps =>
    intro c hc
    simp [tailP] at hc
    subst hc
    decide
theorem stepsLoop_one {f : Nat} {q q' : Qy} {c : UInt8} {p rest : Bs} (hc : isBlank c = false) (h : stepL q ((c :: p) ++ rest) = .ok q' rest) : stepsLoop (f + 1) q (32 :: ((c :: p) ++ rest)) = stepsLoop f q' rest := by
  rw [stepsLoop]
  have hs : skipL (32 :: ((c :: p) ++ rest)) = c :: (p ++ rest) := by
    show skipL (c :: (p ++ rest)) = _
    exact skipL_of hc _
  rw [hs]
  simp only
  rw [show c :: (p ++ rest) = (c :: p) ++ rest from rfl, h]
theorem testText_head (m : Mt) : ∃ c p, testText m = c :: p ∧ isBlank c = false := by
  unfold testText
  by_cases h : m.key ≠ []
  · rw [if_pos h]; exact ⟨124, _, rfl, by decide⟩
  · rw [if_neg h]
    by_cases h3 : m.op = 3
    · rw [if_pos h3]; exact ⟨124, _, rfl, by decide⟩
    · rw [if_neg h3]; exact ⟨33, _, rfl, by decide⟩
theorem stepsLoop_tests (ts : List Mt) (ht : ∀ m ∈ ts, (m.key ≠ [] ∧ keyP m.key = true ∧ 1 ≤ m.op ∧ m.op ≤ 4) ∨ (m.key = [] ∧ (m.op = 3 ∨ m.op = 4))) (f : Nat) (q : Qy) (rest : Bs) :
    stepsLoop (f + ts.length) q (tailP (ts.map testText) ++ rest) = stepsLoop f { q with tests := q.tests ++ ts } rest := by
  induction ts generalizing q with
  | nil => simp [tailP]
  | cons m ts ih =>
    obtain ⟨c, p, hcp, hb⟩ := testText_head m
    have h1 := stepL_test (q := q) (ht m (by simp)) (tailP (ts.map testText) ++ rest)
    rw [hcp] at h1
    rw [List.map_cons, tailP, hcp, List.cons_append, List.append_assoc, List.length_cons, ← Nat.add_assoc, stepsLoop_one hb h1, ih (fun m hm => ht m (by simp [hm]))]
    simp
/-- What a query must be for its text to be read again. -/
structure Fine (q : Qy) : Prop where
  mat : ∀ x ∈ q.mat, keyP x.key = true ∧ 1 ≤ x.op ∧ x.op ≤ 4
  tests : ∀ m ∈ q.tests, (m.key ≠ [] ∧ keyP m.key = true ∧ 1 ≤ m.op ∧ m.op ≤ 4) ∨ (m.key = [] ∧ (m.op = 3 ∨ m.op = 4))
  level : 0 ≤ q.level ∧ q.level ≤ 24
  limit : 0 ≤ q.limit ∧ q.limit ≤ 1000
def levelPs (n : Int) : List Bs := if n ≠ 0 then [levelText n] else []
def limitPs (n : Int) : List Bs := if n ≠ 0 then [limitText n] else []
theorem steps_level {q : Qy} (hq : q.level = 0) {n : Int} (h0 : 0 ≤ n) (h24 : n ≤ 24) {rest : Bs} (hr : ∀ c ∈ rest.head?, isDigit c = false) (f : Nat) :
    stepsLoop (f + (levelPs n).length) q (tailP (levelPs n) ++ rest) = stepsLoop f { q with level := n } rest := by
  unfold levelPs
  by_cases h : n = 0
  · subst h
    obtain ⟨a, b, c, d⟩ := q
    simp only at hq
    subst hq
    rfl
  · rw [if_pos h]
    obtain ⟨k, rfl⟩ : ∃ k : Nat, n = (k : Int) := ⟨n.toNat, by omega⟩
    have h1 := stepL_level (q := q) hq (n := k) (by omega) (by omega) hr
    show stepsLoop (f + 1) q ((32 :: (levelText k ++ [])) ++ rest) = _
    rw [List.append_nil, List.cons_append]
    have e : levelText (k : Int) ++ rest = (124 :: (32 :: (wLevel ++ 32 :: digs k))) ++ rest := rfl
    rw [e]
    refine stepsLoop_one (by decide) ?_
    rw [← h1]
    simp
theorem steps_limit {q : Qy} (hq : q.limit = 0) {n : Int} (h0 : 0 ≤ n) (h24 : n ≤ 1000) {rest : Bs} (hr : ∀ c ∈ rest.head?, isDigit c = false) (f : Nat) :
    stepsLoop (f + (limitPs n).length) q (tailP (limitPs n) ++ rest) = stepsLoop f { q with limit := n } rest := by
  unfold limitPs
  by_cases h : n = 0
  · subst h
    obtain ⟨a, b, c, d⟩ := q
    simp only at hq
    subst hq
    rfl
  · rw [if_pos h]
    obtain ⟨k, rfl⟩ : ∃ k : Nat, n = (k : Int) := ⟨n.toNat, by omega⟩
    have h1 := stepL_limit (q := q) hq (n := k) (by omega) (by omega) hr
    show stepsLoop (f + 1) q ((32 :: (limitText k ++ [])) ++ rest) = _
    rw [List.append_nil, List.cons_append]
    have e : limitText (k : Int) ++ rest = (124 :: (32 :: (wLimit ++ 32 :: digs k))) ++ rest := rfl
    rw [e]
    refine stepsLoop_one (by decide) ?_
    rw [← h1]
    simp
theorem tailP_length (ps : List Bs) : ps.length ≤ (tailP ps).length := by
  induction ps with
  | nil => simp
  | cons p ps ih => simp [tailP]; omega
theorem read_text {q : Qy} (h : Fine q) : readL (textP q) = .ok q [] := by
  have hp : textP q = matchText q.mat ++ tailP (levelPs q.level ++ q.tests.map testText ++ limitPs q.limit) := by
    unfold textP partsP
    rw [joinP_tail]
    rfl
  unfold readL
  rw [hp, matchL_text q.mat h.mat]
  simp only
  obtain ⟨f, hf⟩ : ∃ f, (matchText q.mat ++ tailP (levelPs q.level ++ q.tests.map testText ++ limitPs q.limit)).length + 1 = f + 1 + (limitPs q.limit).length + q.tests.length + (levelPs q.level).length := by
    have := tailP_length (levelPs q.level ++ q.tests.map testText ++ limitPs q.limit)
    simp only [List.length_append, List.length_map] at this ⊢
    exact ⟨(matchText q.mat).length + (tailP (levelPs q.level ++ q.tests.map testText ++ limitPs q.limit)).length - (limitPs q.limit).length - q.tests.length - (levelPs q.level).length, by omega⟩
  rw [hf, tailP_append, tailP_append, List.append_assoc]
  rw [steps_level rfl h.level.1 h.level.2 (by rw [← tailP_append]; exact tailP_head _)]
  rw [stepsLoop_tests q.tests h.tests]
  have := steps_limit (q := ⟨q.mat, q.level, [] ++ q.tests, 0⟩) rfl h.limit.1 h.limit.2 (rest := []) (by simp) (f + 1)
  rw [List.append_nil] at this
  rw [this]
  rfl
end Go.Lq
