/- Queries of spans, in plain Lean: what is read; what is written is read again. -/
import Derived.Test.YtdhmloejgoacaaaGreatDoorTqPure
import Derived.Test.YtdhmloejgoacaaaGreatDoorMw04
set_option linter.unusedVariables false
set_option linter.unusedSimpArgs false
namespace Go.Tq
open Go.Lq

def isW (c : UInt8) : Bool := (97 ≤ c && c ≤ 122) || (65 ≤ c && c ≤ 90) || isDigit c
def wordL (l : Bs) : Bs := (skipL l).takeWhile isW
def readWord (w l : Bs) : Option Bs := if wordL l = w then some ((skipL l).drop w.length) else none
def readQuoted (l : Bs) : Option (Bs × Bs) := match skipL l with
  | [] => none
  | c :: cs => if c = 34 then (match quotedBody [] cs with
    | .ok t r => if t = [] then none else some (t, r)
    | .bad _ => none) else none
def readSpan (l : Bs) : Option (Int × Bs) := match parseSpanP (wordL l) with
  | some n => some (n, (skipL l).drop (wordL l).length)
  | none => none
def readCount (l : Bs) : Option (Int × Bs) :=
  if wordL l ≠ [] ∧ (wordL l).all isDigit = true ∧ 1 ≤ numOf (wordL l) ∧ numOf (wordL l) ≤ 1000 ∧ digs (numOf (wordL l)) = wordL l then some ((numOf (wordL l) : Int), (skipL l).drop (wordL l).length) else none
def readMatchers (l : Bs) : Option (List Mt × Bs) := match matchL (skipL l) with
  | .ok ms r => if ms = [] then none else some (ms, r)
  | .bad _ => none
def readNamed (l : Bs) : Option (Bs × Bs) := if wordL l = wNamed then readQuoted ((skipL l).drop wNamed.length) else some ([], skipL l)
def readLeast (l : Bs) : Option (Int × Bs) := if wordL l = wLeast then readSpan ((skipL l).drop wLeast.length) else some (0, skipL l)
def readMats (l : Bs) : Option (List Mt × Bs) := if (skipL l).head? = some 123 then readMatchers (skipL l) else some ([], skipL l)
def readTest (l : Bs) : Option (St × Bs) := match readNamed l with
  | none => none
  | some (nm, l1) => match readLeast l1 with
    | none => none
    | some (ls, l2) => match readMats l2 with
      | none => none
      | some (ms, l3) => some (⟨nm, ls, ms⟩, l3)
def readKind (l : Bs) : Option (Int × Bs) :=
  if wordL l = wDesc then some (1, (skipL l).drop wDesc.length) else if wordL l = wChild then some (2, (skipL l).drop wChild.length) else none
def readHas (l : Bs) : Option (Int × St × Bs) := if wordL l = wWith then (match readKind ((skipL l).drop wWith.length) with
  | none => none
  | some (h, l1) => match readTest l1 with
    | none => none
    | some (t, l2) => some (h, t, l2)) else some (0, emptySt, skipL l)
def readLimit (l : Bs) : Option (Int × Bs) := if wordL l = wLimit then readCount ((skipL l).drop wLimit.length) else some (0, skipL l)
def readAll (s : Bs) : Option Tq := match readWord wSpans s with
  | none => none
  | some l0 => match readTest l0 with
    | none => none
    | some (f, l1) => match readHas l1 with
      | none => none
      | some (h, t, l2) => match readLimit l2 with
        | none => none
        | some (n, l3) => if skipL l3 = [] then some ⟨f, t, h, n⟩ else none
def zeroT : Tq := ⟨emptySt, emptySt, 0, 0⟩
/-- What Parse says. -/
def parseTP (V : Bs → Bool) (s : Bs) : Tq × Int :=
  if 1024 < s.length then (zeroT, 4) else match readAll s with
    | none => (zeroT, 131)
    | some q => if rightT V q ≠ 0 then (zeroT, rightT V q) else (q, 0)

/-! ### Back -/
theorem wordL_skip (l : Bs) : wordL (skipL l) = wordL l := by unfold wordL; rw [skip_skip]
theorem skip_blank (l : Bs) : skipL (32 :: l) = skipL l := by unfold skipL; rfl
theorem wordL_blank (l : Bs) : wordL (32 :: l) = wordL l := by unfold wordL; rw [skip_blank]
/-- A text that ends here or goes on with a blank. -/
def Ends (l : Bs) : Prop := l = [] ∨ ∃ r, l = 32 :: r
theorem isW_blank {c : UInt8} (h : isW c = true) : isBlank c = false := by
  revert h; revert c
  have : ∀ n : Fin 256, isW (UInt8.ofNat n.val) = true → isBlank (UInt8.ofNat n.val) = false := by decide +kernel
  intro c h
  have h1 := this ⟨c.toNat, c.toNat_lt⟩
  rw [UInt8.ofNat_toNat] at h1
  exact h1 h
theorem takeW (w R : Bs) (hw : w.all isW = true) (hR : Ends R) : (w ++ R).takeWhile isW = w := by
  induction w with
  | nil =>
    rcases hR with rfl | ⟨r, rfl⟩
    · rfl
    · rw [List.nil_append, List.takeWhile_cons, if_neg (by decide)]
  | cons c cs ih =>
    simp only [List.all_cons, Bool.and_eq_true] at hw
    rw [List.cons_append, List.takeWhile_cons, if_pos hw.1, ih hw.2]
theorem skip_word {w R : Bs} (hw : w.all isW = true) (hne : w ≠ []) : skipL (w ++ R) = w ++ R := by
  cases w with
  | nil => exact absurd rfl hne
  | cons c cs =>
    simp only [List.all_cons, Bool.and_eq_true] at hw
    exact skipL_of (isW_blank hw.1) _
theorem word_at {w R : Bs} (hw : w.all isW = true) (hne : w ≠ []) (hR : Ends R) : wordL (w ++ R) = w ∧ (skipL (w ++ R)).drop w.length = R := by
  unfold wordL
  rw [skip_word hw hne]
  exact ⟨takeW w R hw hR, List.drop_left⟩
theorem word_not {c : UInt8} {R : Bs} (hb : isBlank c = false) (hc : isW c = false) : wordL (c :: R) = [] := by
  unfold wordL
  rw [skipL_of hb, List.takeWhile_cons, if_neg (by rw [hc]; simp)]
theorem word_nil : wordL [] = [] := rfl

/-- What stands behind a test: no word of a test, no brace. -/
structure Rest (R : Bs) : Prop where
  ends : Ends R
  named : wordL R ≠ wNamed
  least : wordL R ≠ wLeast
  brace : (skipL R).head? ≠ some 123
theorem Ends.cons (l : Bs) : Ends (32 :: l) := .inr ⟨l, rfl⟩
theorem readMats_skip {a b : Bs} (h : skipL a = skipL b) : readMats a = readMats b := by unfold readMats; rw [h]
theorem readLeast_skip {a b : Bs} (h : skipL a = skipL b) : readLeast a = readLeast b := by unfold readLeast wordL; rw [h]
theorem readNamed_skip {a b : Bs} (h : skipL a = skipL b) : readNamed a = readNamed b := by unfold readNamed wordL; rw [h]
theorem readTest_skip {a b : Bs} (h : skipL a = skipL b) : readTest a = readTest b := by unfold readTest; rw [readNamed_skip h]
theorem readHas_skip {a b : Bs} (h : skipL a = skipL b) : readHas a = readHas b := by unfold readHas wordL; rw [h]
theorem readLimit_skip {a b : Bs} (h : skipL a = skipL b) : readLimit a = readLimit b := by unfold readLimit wordL; rw [h]

def matsT (t : St) : Bs := if t.mat ≠ [] then 32 :: matchText t.mat else []
def leastT (t : St) : Bs := if t.least ≠ 0 then 32 :: (wLeast ++ 32 :: spanD t.least) else []
def namedT (t : St) : Bs := if t.name ≠ [] then 32 :: (wNamed ++ 32 :: quoteP t.name) else []
theorem testT_eq (t : St) : testT t = namedT t ++ (leastT t ++ matsT t) := rfl
structure FineS (t : St) : Prop where
  least : t.least ≠ 0 → spanP t.least ≠ none
  mat : ∀ x ∈ t.mat, keyP x.key = true ∧ 1 ≤ x.op ∧ x.op ≤ 4
theorem mats_back {t : St} (h : FineS t) {R : Bs} (hR : Rest R) : ∃ R', readMats (matsT t ++ R) = some (t.mat, R') ∧ skipL R' = skipL R := by
  unfold matsT
  by_cases hm : t.mat = []
  · rw [if_neg (by simp [hm]), List.nil_append, hm]
    unfold readMats
    rw [if_neg hR.brace]
    exact ⟨_, rfl, skip_skip R⟩
  · rw [if_pos hm]
    have hs : skipL (32 :: (matchText t.mat) ++ R) = matchText t.mat ++ R := by
      rw [List.cons_append, skip_blank]
      unfold matchText
      exact skipL_of (by decide) _
    unfold readMats readMatchers
    rw [hs]
    have hh : (matchText t.mat ++ R).head? = some 123 := by unfold matchText; rfl
    rw [if_pos hh]
    have hss : skipL (matchText t.mat ++ R) = matchText t.mat ++ R := by unfold matchText; exact skipL_of (by decide) _
    rw [hss, matchL_text t.mat h.mat R]
    simp only
    rw [if_neg hm]
    exact ⟨R, rfl, rfl⟩
theorem mats_first (t : St) {R : Bs} (hR : Rest R) : Ends (matsT t ++ R) ∧ wordL (matsT t ++ R) ≠ wNamed ∧ wordL (matsT t ++ R) ≠ wLeast := by
  unfold matsT
  by_cases hm : t.mat = []
  · rw [if_neg (by simp [hm]), List.nil_append]
    exact ⟨hR.ends, hR.named, hR.least⟩
  · rw [if_pos hm, List.cons_append, wordL_blank]
    have : wordL (matchText t.mat ++ R) = [] := by unfold matchText; exact word_not (by decide) (by decide)
    rw [this]
    exact ⟨Ends.cons _, by decide, by decide⟩
theorem span_word {n : Int} {d : Bs} (h : spanP n = some d) : d.all isW = true := by
  rw [List.all_eq_true]
  intro c hc
  have : ∀ n : Fin 256, (isDigit (UInt8.ofNat n.val) = true ∨ isUnitC (UInt8.ofNat n.val) = true) → isW (UInt8.ofNat n.val) = true := by decide +kernel
  have h1 := this ⟨c.toNat, c.toNat_lt⟩
  rw [UInt8.ofNat_toNat] at h1
  exact h1 ((span_back h).2.1 c hc)
theorem least_back {t : St} (h : FineS t) {R : Bs} (hR : Ends R) (hn : wordL R ≠ wLeast) : ∃ R', readLeast (leastT t ++ R) = some (t.least, R') ∧ skipL R' = skipL R := by
  unfold leastT
  by_cases h0 : t.least = 0
  · rw [if_neg (by simp [h0]), List.nil_append, h0]
    unfold readLeast
    rw [if_neg hn]
    exact ⟨_, rfl, skip_skip R⟩
  · rw [if_pos h0]
    cases hd : spanP t.least with
    | none => exact absurd hd (h.least h0)
    | some d =>
      have hsp : spanD t.least = d := by unfold spanD; rw [hd]; rfl
      rw [hsp]
      have e : (32 :: (wLeast ++ 32 :: d)) ++ R = 32 :: (wLeast ++ 32 :: (d ++ R)) := by simp
      obtain ⟨w1, w2⟩ := word_at (w := wLeast) (R := 32 :: (d ++ R)) (by decide) (by decide) (Ends.cons _)
      obtain ⟨sb, _, sne, _⟩ := span_back hd
      obtain ⟨v1, v2⟩ := word_at (w := d) (R := R) (span_word hd) sne hR
      unfold readLeast readSpan
      rw [e, wordL_blank, skip_blank, w1, if_pos rfl, w2, wordL_blank, skip_blank, v1, sb]
      simp only
      rw [v2]
      exact ⟨R, rfl, rfl⟩
theorem least_first (t : St) {R : Bs} (hR : Ends R) (hn : wordL R ≠ wNamed) : Ends (leastT t ++ R) ∧ wordL (leastT t ++ R) ≠ wNamed := by
  unfold leastT
  by_cases h0 : t.least = 0
  · rw [if_neg (by simp [h0]), List.nil_append]
    exact ⟨hR, hn⟩
  · rw [if_pos h0]
    have e : (32 :: (wLeast ++ 32 :: spanD t.least)) ++ R = 32 :: (wLeast ++ 32 :: (spanD t.least ++ R)) := by simp
    rw [e, wordL_blank, (word_at (w := wLeast) (by decide) (by decide) (Ends.cons _)).1]
    exact ⟨Ends.cons _, by decide⟩
theorem named_back (t : St) {R : Bs} (hn : wordL R ≠ wNamed) : ∃ R', readNamed (namedT t ++ R) = some (t.name, R') ∧ skipL R' = skipL R := by
  unfold namedT
  by_cases h0 : t.name = []
  · rw [if_neg (by simp [h0]), List.nil_append, h0]
    unfold readNamed
    rw [if_neg hn]
    exact ⟨_, rfl, skip_skip R⟩
  · rw [if_pos h0]
    have e : (32 :: (wNamed ++ 32 :: quoteP t.name)) ++ R = 32 :: (wNamed ++ 32 :: (quoteP t.name ++ R)) := by simp
    obtain ⟨w1, w2⟩ := word_at (w := wNamed) (R := 32 :: (quoteP t.name ++ R)) (by decide) (by decide) (Ends.cons _)
    have hq : skipL (32 :: (quoteP t.name ++ R)) = 34 :: (t.name.flatMap esc ++ 34 :: R) := by
      rw [skip_blank]
      unfold quoteP
      rw [List.cons_append, skipL_of (by decide)]
      simp
    unfold readNamed readQuoted
    rw [e, wordL_blank, skip_blank, w1, if_pos rfl, w2, hq]
    simp only [if_true]
    rw [quotedBody_esc]
    simp only [List.nil_append]
    rw [if_neg h0]
    exact ⟨R, rfl, rfl⟩
theorem test_back {t : St} (h : FineS t) {R : Bs} (hR : Rest R) : ∃ R', readTest (testT t ++ R) = some (t, R') ∧ skipL R' = skipL R := by
  obtain ⟨m1, m2, m3⟩ := mats_first t hR
  obtain ⟨l1, l2⟩ := least_first t m1 m2
  obtain ⟨A, a1, a2⟩ := named_back t l2
  obtain ⟨B, b1, b2⟩ := least_back h m1 m3
  obtain ⟨C, c1, c2⟩ := mats_back h hR
  rw [testT_eq, List.append_assoc, List.append_assoc]
  unfold readTest
  rw [a1]
  simp only
  rw [readLeast_skip a2, b1]
  simp only
  rw [readMats_skip b2, c1]
  exact ⟨C, rfl, c2⟩
def limitT (q : Tq) : Bs := if q.limit ≠ 0 then 32 :: (wLimit ++ 32 :: digs q.limit.toNat) else []
def hasT (q : Tq) : Bs := if q.has = 1 then 32 :: (wWith ++ 32 :: (wDesc ++ testT q.second)) else if q.has = 2 then 32 :: (wWith ++ 32 :: (wChild ++ testT q.second)) else []
theorem textT_eq (q : Tq) : textT q = wSpans ++ (testT q.first ++ (hasT q ++ limitT q)) := rfl
theorem limit_rest (q : Tq) : Rest (limitT q) ∧ wordL (limitT q) ≠ wWith := by
  unfold limitT
  by_cases h0 : q.limit = 0
  · rw [if_neg (by simp [h0])]
    exact ⟨⟨.inl rfl, by decide, by decide, by decide⟩, by decide⟩
  · rw [if_pos h0]
    have hw := (word_at (w := wLimit) (R := 32 :: digs q.limit.toNat) (by decide) (by decide) (Ends.cons _)).1
    have hs : skipL (32 :: (wLimit ++ 32 :: digs q.limit.toNat)) = wLimit ++ 32 :: digs q.limit.toNat := by rw [skip_blank]; exact skip_word (by decide) (by decide)
    refine ⟨⟨Ends.cons _, ?_, ?_, ?_⟩, ?_⟩
    · rw [wordL_blank, hw]; decide
    · rw [wordL_blank, hw]; decide
    · rw [hs]; simp [wLimit]
    · rw [wordL_blank, hw]; decide
theorem has_rest (q : Tq) : Rest (hasT q ++ limitT q) := by
  obtain ⟨hl, _⟩ := limit_rest q
  have key : ∀ X : Bs, Rest (32 :: (wWith ++ 32 :: X)) := fun X => by
    have hw := (word_at (w := wWith) (R := 32 :: X) (by decide) (by decide) (Ends.cons _)).1
    have hs : skipL (32 :: (wWith ++ 32 :: X)) = wWith ++ 32 :: X := by rw [skip_blank]; exact skip_word (by decide) (by decide)
    refine ⟨Ends.cons _, ?_, ?_, ?_⟩
    · rw [wordL_blank, hw]; decide
    · rw [wordL_blank, hw]; decide
    · rw [hs]; simp [wWith]
  unfold hasT
  by_cases h1 : q.has = 1
  · rw [if_pos h1]
    have e : (32 :: (wWith ++ 32 :: (wDesc ++ testT q.second))) ++ limitT q = 32 :: (wWith ++ 32 :: (wDesc ++ testT q.second ++ limitT q)) := by simp
    rw [e]
    exact key _
  · rw [if_neg h1]
    by_cases h2 : q.has = 2
    · rw [if_pos h2]
      have e : (32 :: (wWith ++ 32 :: (wChild ++ testT q.second))) ++ limitT q = 32 :: (wWith ++ 32 :: (wChild ++ testT q.second ++ limitT q)) := by simp
      rw [e]
      exact key _
    · rw [if_neg h2, List.nil_append]
      exact hl
structure FineT (q : Tq) : Prop where
  first : FineS q.first
  second : FineS q.second
  has : 0 ≤ q.has ∧ q.has ≤ 2
  none : q.has = 0 → q.second = emptySt
  limit : 0 ≤ q.limit ∧ q.limit ≤ 1000
theorem testT_ends (t : St) {R : Bs} (hR : Rest R) : Ends (testT t ++ R) := by
  obtain ⟨m1, m2, _⟩ := mats_first t hR
  obtain ⟨l1, _⟩ := least_first t m1 m2
  rw [testT_eq, List.append_assoc, List.append_assoc]
  unfold namedT
  split
  · exact .inr ⟨_, rfl⟩
  · exact l1
theorem has_back {q : Tq} (h : FineT q) : ∃ R', readHas (hasT q ++ limitT q) = some (q.has, q.second, R') ∧ skipL R' = skipL (limitT q) := by
  obtain ⟨hl, hw⟩ := limit_rest q
  obtain ⟨A, a1, a2⟩ := test_back h.second hl
  have he := testT_ends q.second hl
  unfold hasT
  by_cases h1 : q.has = 1
  · rw [if_pos h1, h1]
    have e : (32 :: (wWith ++ 32 :: (wDesc ++ testT q.second))) ++ limitT q = 32 :: (wWith ++ 32 :: (wDesc ++ (testT q.second ++ limitT q))) := by simp
    obtain ⟨w1, w2⟩ := word_at (w := wWith) (R := 32 :: (wDesc ++ (testT q.second ++ limitT q))) (by decide) (by decide) (Ends.cons _)
    obtain ⟨v1, v2⟩ := word_at (w := wDesc) (R := testT q.second ++ limitT q) (by decide) (by decide) he
    unfold readHas readKind
    rw [e, wordL_blank, skip_blank, w1, if_pos rfl, w2, wordL_blank, skip_blank, v1, if_pos rfl, v2]
    simp only
    rw [a1]
    exact ⟨A, rfl, a2⟩
  · rw [if_neg h1]
    by_cases h2 : q.has = 2
    · rw [if_pos h2, h2]
      have e : (32 :: (wWith ++ 32 :: (wChild ++ testT q.second))) ++ limitT q = 32 :: (wWith ++ 32 :: (wChild ++ (testT q.second ++ limitT q))) := by simp
      obtain ⟨w1, w2⟩ := word_at (w := wWith) (R := 32 :: (wChild ++ (testT q.second ++ limitT q))) (by decide) (by decide) (Ends.cons _)
      obtain ⟨v1, v2⟩ := word_at (w := wChild) (R := testT q.second ++ limitT q) (by decide) (by decide) he
      unfold readHas readKind
      rw [e, wordL_blank, skip_blank, w1, if_pos rfl, w2, wordL_blank, skip_blank, v1, if_neg (by decide), if_pos rfl, v2]
      simp only
      rw [a1]
      exact ⟨A, rfl, a2⟩
    · rw [if_neg h2, List.nil_append]
      have h0 : q.has = 0 := by have := h.has; omega
      unfold readHas
      rw [if_neg hw, h0, h.none h0]
      exact ⟨_, rfl, skip_skip _⟩
theorem limit_back {q : Tq} (h : FineT q) : ∃ R', readLimit (limitT q) = some (q.limit, R') ∧ skipL R' = [] := by
  unfold limitT
  by_cases h0 : q.limit = 0
  · rw [if_neg (by simp [h0]), h0]
    exact ⟨[], rfl, rfl⟩
  · rw [if_pos h0]
    obtain ⟨k, hk⟩ : ∃ k : Nat, q.limit = (k : Int) := ⟨q.limit.toNat, by have := h.limit; omega⟩
    have hk1 : 1 ≤ k ∧ k ≤ 1000 := by have := h.limit; omega
    obtain ⟨d1, d2, d3, d4⟩ := digs_spec k
    rw [hk, Int.toNat_natCast]
    obtain ⟨w1, w2⟩ := word_at (w := wLimit) (R := 32 :: digs k) (by decide) (by decide) (Ends.cons _)
    have hdw : (digs k).all isW = true := by
      rw [List.all_eq_true] at d1 ⊢
      intro c hc
      unfold isW
      rw [d1 c hc, Bool.or_true]
    obtain ⟨v1, v2⟩ := word_at (w := digs k) (R := []) hdw d3 (.inl rfl)
    rw [List.append_nil] at v1 v2
    unfold readLimit readCount
    rw [wordL_blank, skip_blank, w1, if_pos rfl, w2, wordL_blank, skip_blank, v1, d2, if_pos ⟨d3, d1, hk1.1, hk1.2, rfl⟩, v2]
    exact ⟨[], rfl, rfl⟩
theorem readAll_text {q : Tq} (h : FineT q) : readAll (textT q) = some q := by
  have hr := has_rest q
  obtain ⟨A, a1, a2⟩ := test_back h.first hr
  obtain ⟨B, b1, b2⟩ := has_back h
  obtain ⟨C, c1, c2⟩ := limit_back h
  obtain ⟨w1, w2⟩ := word_at (w := wSpans) (R := testT q.first ++ (hasT q ++ limitT q)) (by decide) (by decide) (testT_ends q.first hr)
  unfold readAll readWord
  rw [textT_eq, w1, if_pos rfl, w2]
  simp only
  rw [a1]
  simp only
  rw [readHas_skip a2, b1]
  simp only
  rw [readLimit_skip b2, c1]
  simp only
  rw [if_pos c2]
end Go.Tq
namespace Go.Tq
open Go.Lq

/-- What stands behind the sign that ends it; inq: within quotes. -/
def cutGo (e : UInt8) : Bool → Bs → Option Bs
  | _, [] => none
  | true, c :: cs => if c = 92 then (match cs with
      | [] => none
      | _ :: ds => cutGo e true ds) else if c = 34 then (if e = 34 then some cs else cutGo e false cs) else cutGo e true cs
  | false, c :: cs => if c = 34 then cutGo e true cs else if c = e then some cs else cutGo e false cs
theorem cut_t (e c : UInt8) (cs : Bs) : cutGo e true (c :: cs) = if c = 92 then (match cs with
      | [] => none
      | _ :: ds => cutGo e true ds) else if c = 34 then (if e = 34 then some cs else cutGo e false cs) else cutGo e true cs := by
  cases cs <;> rfl
theorem cut_f (e c : UInt8) (cs : Bs) : cutGo e false (c :: cs) = if c = 34 then cutGo e true cs else if c = e then some cs else cutGo e false cs := by
  cases cs <;> rfl
/-- A quoted text that is read hangs on itself alone. -/
theorem quoted_local : ∀ (n : Nat) (acc l t r : Bs), l.length ≤ n → quotedBody acc l = .ok t r → ∃ a, l = a ++ r ∧ ∀ r', quotedBody acc (a ++ r') = .ok t r'
  | 0, acc, l, t, r, hn, h => by
    have : l = [] := List.eq_nil_of_length_eq_zero (by omega)
    subst this
    rw [qb_nil] at h
    cases h
  | n + 1, acc, [], t, r, hn, h => by
    rw [qb_nil] at h
    cases h
  | n + 1, acc, c :: cs, t, r, hn, h => by
    rw [qb_cons] at h
    simp only [List.length_cons] at hn
    by_cases h1 : c = 34
    · rw [if_pos h1] at h
      cases h
      refine ⟨[c], rfl, fun r' => ?_⟩
      rw [List.singleton_append, qb_cons, if_pos h1]
    · rw [if_neg h1] at h
      by_cases h2 : c = 10
      · rw [if_pos h2] at h
        cases h
      · rw [if_neg h2] at h
        by_cases h3 : c = 92
        · rw [if_pos h3] at h
          cases cs with
          | nil => cases h
          | cons d ds =>
            simp only at h
            simp only [List.length_cons] at hn
            have key : ∀ x : UInt8, quotedBody (acc ++ [x]) ds = .ok t r → (∀ r', quotedBody acc (c :: d :: (ds ++ r')) = quotedBody (acc ++ [x]) (ds ++ r')) → True := fun _ _ _ => trivial
            by_cases e1 : d = 34
            · rw [if_pos e1] at h
              obtain ⟨a, rfl, ha⟩ := quoted_local n _ ds t r (by omega) h
              refine ⟨c :: d :: a, rfl, fun r' => ?_⟩
              rw [List.cons_append, List.cons_append, qb_cons, if_neg h1, if_neg h2, if_pos h3]
              simp only
              rw [if_pos e1, ha]
            · rw [if_neg e1] at h
              by_cases e2 : d = 92
              · rw [if_pos e2] at h
                obtain ⟨a, rfl, ha⟩ := quoted_local n _ ds t r (by omega) h
                refine ⟨c :: d :: a, rfl, fun r' => ?_⟩
                rw [List.cons_append, List.cons_append, qb_cons, if_neg h1, if_neg h2, if_pos h3]
                simp only
                rw [if_neg e1, if_pos e2, ha]
              · rw [if_neg e2] at h
                by_cases e3 : d = 110
                · rw [if_pos e3] at h
                  obtain ⟨a, rfl, ha⟩ := quoted_local n _ ds t r (by omega) h
                  refine ⟨c :: d :: a, rfl, fun r' => ?_⟩
                  rw [List.cons_append, List.cons_append, qb_cons, if_neg h1, if_neg h2, if_pos h3]
                  simp only
                  rw [if_neg e1, if_neg e2, if_pos e3, ha]
                · rw [if_neg e3] at h
                  cases h
        · rw [if_neg h3] at h
          obtain ⟨a, rfl, ha⟩ := quoted_local n _ cs t r (by omega) h
          refine ⟨c :: a, rfl, fun r' => ?_⟩
          rw [List.cons_append, qb_cons, if_neg h1, if_neg h2, if_neg h3, ha]
/-- The cut of a quoted text that can be read is where it ends. -/
theorem cut_quoted (e : UInt8) : ∀ (n : Nat) (acc l t r : Bs), l.length ≤ n → quotedBody acc l = .ok t r → cutGo e true l = if e = 34 then some r else cutGo e false r
  | 0, acc, l, t, r, hn, h => by
    have : l = [] := List.eq_nil_of_length_eq_zero (by omega)
    subst this
    rw [qb_nil] at h
    cases h
  | n + 1, acc, [], t, r, hn, h => by
    rw [qb_nil] at h
    cases h
  | n + 1, acc, c :: cs, t, r, hn, h => by
    rw [qb_cons] at h
    simp only [List.length_cons] at hn
    by_cases h1 : c = 34
    · rw [if_pos h1] at h
      cases h
      rw [cut_t, if_neg (by rw [h1]; decide), if_pos h1]
    · rw [if_neg h1] at h
      by_cases h2 : c = 10
      · rw [if_pos h2] at h
        cases h
      · rw [if_neg h2] at h
        by_cases h3 : c = 92
        · rw [if_pos h3] at h
          cases cs with
          | nil => cases h
          | cons d ds =>
            simp only at h
            simp only [List.length_cons] at hn
            rw [cut_t, if_pos h3]
            simp only
            by_cases e1 : d = 34
            · rw [if_pos e1] at h
              exact cut_quoted e n _ ds t r (by omega) h
            · rw [if_neg e1] at h
              by_cases e2 : d = 92
              · rw [if_pos e2] at h
                exact cut_quoted e n _ ds t r (by omega) h
              · rw [if_neg e2] at h
                by_cases e3 : d = 110
                · rw [if_pos e3] at h
                  exact cut_quoted e n _ ds t r (by omega) h
                · rw [if_neg e3] at h
                  cases h
        · rw [if_neg h3] at h
          rw [cut_t, if_neg h3, if_neg h1]
          exact cut_quoted e n _ cs t r (by omega) h
/-- What is cut off is a part at the head. -/
theorem cut_prefix (e : UInt8) : ∀ (n : Nat) (b : Bool) (l r : Bs), l.length ≤ n → cutGo e b l = some r → ∃ a, l = a ++ r ∧ a ≠ []
  | 0, b, l, r, hn, h => by
    have : l = [] := List.eq_nil_of_length_eq_zero (by omega)
    subst this
    cases b <;> cases h
  | n + 1, b, [], r, hn, h => by cases b <;> cases h
  | n + 1, true, c :: cs, r, hn, h => by
    simp only [List.length_cons] at hn
    rw [cut_t] at h
    split at h
    · cases cs with
      | nil => cases h
      | cons d ds =>
        simp only at h
        simp only [List.length_cons] at hn
        obtain ⟨a, rfl, _⟩ := cut_prefix e n true ds r (by omega) h
        exact ⟨c :: d :: a, rfl, by simp⟩
    · split at h
      · split at h
        · cases h
          exact ⟨[c], rfl, by simp⟩
        · obtain ⟨a, rfl, _⟩ := cut_prefix e n false cs r (by omega) h
          exact ⟨c :: a, rfl, by simp⟩
      · obtain ⟨a, rfl, _⟩ := cut_prefix e n true cs r (by omega) h
        exact ⟨c :: a, rfl, by simp⟩
  | n + 1, false, c :: cs, r, hn, h => by
    simp only [List.length_cons] at hn
    rw [cut_f] at h
    split at h
    · obtain ⟨a, rfl, _⟩ := cut_prefix e n true cs r (by omega) h
      exact ⟨c :: a, rfl, by simp⟩
    · split at h
      · cases h
        exact ⟨[c], rfl, by simp⟩
      · obtain ⟨a, rfl, _⟩ := cut_prefix e n false cs r (by omega) h
        exact ⟨c :: a, rfl, by simp⟩
/-- Bytes outside quotes that are neither a quote nor the sign are passed over. -/
theorem cut_pass (e : UInt8) (a r : Bs) (h : ∀ c ∈ a, c ≠ 34 ∧ c ≠ e) : cutGo e false (a ++ r) = cutGo e false r := by
  induction a with
  | nil => rfl
  | cons c cs ih =>
    have hc := h c (by simp)
    rw [List.cons_append, cut_f, if_neg hc.1, if_neg hc.2]
    exact ih (fun x hx => h x (by simp [hx]))
end Go.Tq
namespace Go.Tq
open Go.Lq

theorem skip_split (l : Bs) : ∃ bl, l = bl ++ skipL l ∧ ∀ c ∈ bl, isBlank c = true := by
  refine ⟨l.takeWhile isBlank, (List.takeWhile_append_dropWhile).symm, fun c hc => ?_⟩
  exact List.all_eq_true.1 List.all_takeWhile c hc
theorem skip_app {bl : Bs} (h : ∀ c ∈ bl, isBlank c = true) (x : Bs) : skipL (bl ++ x) = skipL x := by
  induction bl with
  | nil => rfl
  | cons c cs ih =>
    unfold skipL at ih ⊢
    rw [List.cons_append, List.dropWhile_cons, if_pos (h c (by simp))]
    exact ih (fun y hy => h y (by simp [hy]))
theorem blank_not {c : UInt8} (h : isBlank c = true) : c ≠ 34 ∧ c ≠ 125 ∧ isTail c = false ∧ c ≠ 44 := by
  revert h; revert c
  have : ∀ n : Fin 256, isBlank (UInt8.ofNat n.val) = true → (UInt8.ofNat n.val) ≠ 34 ∧ (UInt8.ofNat n.val) ≠ 125 ∧ isTail (UInt8.ofNat n.val) = false ∧ (UInt8.ofNat n.val) ≠ 44 := by decide +kernel
  intro c h
  have h1 := this ⟨c.toNat, c.toNat_lt⟩
  rw [UInt8.ofNat_toNat] at h1
  exact h1 h
theorem tail_not {c : UInt8} (h : isTail c = true) : c ≠ 34 ∧ c ≠ 125 ∧ isBlank c = false := by
  revert h; revert c
  have : ∀ n : Fin 256, isTail (UInt8.ofNat n.val) = true → (UInt8.ofNat n.val) ≠ 34 ∧ (UInt8.ofNat n.val) ≠ 125 ∧ isBlank (UInt8.ofNat n.val) = false := by decide +kernel
  intro c h
  have h1 := this ⟨c.toNat, c.toNat_lt⟩
  rw [UInt8.ofNat_toNat] at h1
  exact h1 h
theorem head_is_tail {c : UInt8} (h : isHead c = true) : isTail c = true := by unfold isTail; rw [h]; rfl
/-- Passed over by the cut. -/
def Pass (a : Bs) : Prop := ∀ c ∈ a, c ≠ 34 ∧ c ≠ 125
theorem Pass.app {a b : Bs} (ha : Pass a) (hb : Pass b) : Pass (a ++ b) := fun c hc => by
  rcases List.mem_append.1 hc with h | h
  · exact ha c h
  · exact hb c h
theorem Pass.blanks {bl : Bs} (h : ∀ c ∈ bl, isBlank c = true) : Pass bl := fun c hc => ⟨(blank_not (h c hc)).1, (blank_not (h c hc)).2.1⟩
theorem tw_app (k x : Bs) (hk : k.all isTail = true) (hx : ∀ c ∈ x.head?, isTail c = false) : (k ++ x).takeWhile isTail = k ∧ (k ++ x).dropWhile isTail = x := by
  induction k with
  | nil =>
    cases x with
    | nil => exact ⟨rfl, rfl⟩
    | cons c cs =>
      have := hx c (by simp)
      simp [this]
  | cons c cs ih =>
    simp only [List.all_cons, Bool.and_eq_true] at hk
    obtain ⟨i1, i2⟩ := ih hk.2
    constructor
    · rw [List.cons_append, List.takeWhile_cons, if_pos hk.1, i1]
    · rw [List.cons_append, List.dropWhile_cons, if_pos hk.1, i2]
theorem key_local {l k r : Bs} (h : keyL l = .ok k r) : ∃ a, l = a ++ r ∧ a ≠ [] ∧ Pass a ∧ (∀ x : Bs, x.head? = r.head? → keyL (a ++ x) = .ok k x) := by
  obtain ⟨bl, hb1, hb2⟩ := skip_split l
  unfold keyL at h
  cases hs : skipL l with
  | nil => rw [hs] at h; cases h
  | cons c cs =>
    rw [hs] at h hb1
    simp only at h
    split at h
    · rename_i hc
      simp only [PR.ok.injEq] at h
      obtain ⟨rfl, rfl⟩ := h
      have hct := tail_not (head_is_tail hc)
      refine ⟨bl ++ (c :: cs.takeWhile isTail), ?_, by simp, (Pass.blanks hb2).app ?_, fun x hx => ?_⟩
      · conv => lhs; rw [hb1]
        rw [List.append_assoc, List.cons_append, List.takeWhile_append_dropWhile]
      · intro y hy
        rcases List.mem_cons.1 hy with rfl | hy
        · exact ⟨hct.1, hct.2.1⟩
        · have := List.all_eq_true.1 (List.all_takeWhile (p := isTail) (l := cs)) y hy
          exact ⟨(tail_not this).1, (tail_not this).2.1⟩
      · have hxt : ∀ y ∈ x.head?, isTail y = false := by
          intro y hy
          rw [hx] at hy
          have : ∀ (z : Bs), ∀ y ∈ (z.dropWhile isTail).head?, isTail y = false := by
            intro z
            induction z with
            | nil => intro y hy; cases hy
            | cons u us ih =>
              intro y hy
              rw [List.dropWhile_cons] at hy
              split at hy
              · exact ih y hy
              · rename_i hu
                simp only [List.head?_cons, Option.mem_some_iff] at hy
                subst hy
                simpa using hu
          exact this cs y hy
        obtain ⟨t1, t2⟩ := tw_app (cs.takeWhile isTail) x List.all_takeWhile hxt
        unfold keyL
        rw [List.append_assoc, skip_app hb2, List.cons_append, skipL_of hct.2.2]
        simp only
        rw [if_pos hc, t1, t2]
    · cases h
theorem takeL_some {t l r : Bs} (h : takeL t l = some r) : l = t ++ r := by
  unfold takeL at h
  split at h
  · rename_i hp
    simp only [Option.some.injEq] at h
    obtain ⟨s, hs⟩ := List.isPrefixOf_iff_prefix.1 hp
    rw [← h, ← hs, List.drop_left]
  · cases h
theorem takeL_app (t r : Bs) : takeL t (t ++ r) = some r := by
  unfold takeL
  rw [if_pos (List.isPrefixOf_iff_prefix.2 ⟨r, rfl⟩), List.drop_left]
theorem takeL_none1 {c : UInt8} {t x : Bs} (h : x.head? ≠ some c) : takeL (c :: t) x = none := by
  unfold takeL
  rw [if_neg]
  intro hp
  obtain ⟨s, hs⟩ := List.isPrefixOf_iff_prefix.1 hp
  rw [← hs] at h
  exact h rfl
theorem takeL_none2 {c d : UInt8} {x : Bs} (h : x.head? ≠ some d) : takeL [c, d] (c :: x) = none := by
  unfold takeL
  rw [if_neg]
  intro hp
  obtain ⟨s, hs⟩ := List.isPrefixOf_iff_prefix.1 hp
  simp only [List.cons_append, List.nil_append, List.cons.injEq, true_and] at hs
  rw [← hs] at h
  exact h rfl
theorem op_local {l r : Bs} {n : Int} (h : opL l = .ok n r) (hn : n ≠ 0) : ∃ a, l = a ++ r ∧ a ≠ [] ∧ Pass a ∧ (∀ x : Bs, x.head? = r.head? → opL (a ++ x) = .ok n x) := by
  obtain ⟨bl, hb1, hb2⟩ := skip_split l
  unfold opL at h
  cases h1 : takeL [61, 126] (skipL l) with
  | some y =>
    rw [h1] at h
    simp only [PR.ok.injEq] at h
    obtain ⟨rfl, rfl⟩ := h
    rw [takeL_some h1] at hb1
    refine ⟨bl ++ [61, 126], by rw [hb1]; simp, by simp, (Pass.blanks hb2).app (by unfold Pass; decide), fun x hx => ?_⟩
    unfold opL
    rw [List.append_assoc, skip_app hb2, show ([61, 126] : Bs) ++ x = 61 :: (126 :: x) from rfl, skipL_of (by decide), show (61 : UInt8) :: 126 :: x = [61, 126] ++ x from rfl, takeL_app]
  | none =>
    rw [h1] at h
    simp only at h
    cases h2 : takeL [33, 126] (skipL l) with
    | some y =>
      rw [h2] at h
      simp only [PR.ok.injEq] at h
      obtain ⟨rfl, rfl⟩ := h
      rw [takeL_some h2] at hb1
      refine ⟨bl ++ [33, 126], by rw [hb1]; simp, by simp, (Pass.blanks hb2).app (by unfold Pass; decide), fun x hx => ?_⟩
      unfold opL
      rw [List.append_assoc, skip_app hb2, show ([33, 126] : Bs) ++ x = 33 :: (126 :: x) from rfl, skipL_of (by decide), takeL_none1 (by simp), show (33 : UInt8) :: 126 :: x = [33, 126] ++ x from rfl, takeL_app]
    | none =>
      rw [h2] at h
      simp only at h
      cases h3 : takeL [33, 61] (skipL l) with
      | some y =>
        rw [h3] at h
        simp only [PR.ok.injEq] at h
        obtain ⟨rfl, rfl⟩ := h
        rw [takeL_some h3] at hb1
        refine ⟨bl ++ [33, 61], by rw [hb1]; simp, by simp, (Pass.blanks hb2).app (by unfold Pass; decide), fun x hx => ?_⟩
        unfold opL
        rw [List.append_assoc, skip_app hb2, show ([33, 61] : Bs) ++ x = 33 :: (61 :: x) from rfl, skipL_of (by decide), takeL_none1 (by simp), takeL_none2 (by simp), show (33 : UInt8) :: 61 :: x = [33, 61] ++ x from rfl, takeL_app]
      | none =>
        rw [h3] at h
        simp only at h
        cases h4 : takeL [61] (skipL l) with
        | some y =>
          rw [h4] at h
          simp only [PR.ok.injEq] at h
          obtain ⟨rfl, rfl⟩ := h
          rw [takeL_some h4] at hb1 h1
          have hy : y.head? ≠ some 126 := by
            intro hh
            cases y with
            | nil => cases hh
            | cons c cs =>
              simp only [List.head?_cons, Option.some.injEq] at hh
              subst hh
              rw [show ([61] : Bs) ++ 126 :: cs = [61, 126] ++ cs from rfl, takeL_app] at h1
              cases h1
          refine ⟨bl ++ [61], by rw [hb1]; simp, by simp, (Pass.blanks hb2).app (by unfold Pass; decide), fun x hx => ?_⟩
          unfold opL
          rw [List.append_assoc, skip_app hb2, show ([61] : Bs) ++ x = 61 :: x from rfl, skipL_of (by decide), takeL_none2 (by rw [hx]; exact hy), takeL_none1 (by simp), takeL_none1 (by simp), show (61 : UInt8) :: x = [61] ++ x from rfl, takeL_app]
        | none =>
          rw [h4] at h
          simp only at h
          cases h5 : takeL [33] (skipL l) with
          | some y => rw [h5] at h; cases h
          | none =>
            rw [h5] at h
            simp only [PR.ok.injEq] at h
            exact absurd h.1.symm hn
theorem quoted_local' {l v r : Bs} (h : quotedL l = .ok v r) : ∃ a, l = a ++ r ∧ a ≠ [] ∧ (∀ x : Bs, quotedL (a ++ x) = .ok v x) ∧ cutGo 125 false l = cutGo 125 false r := by
  obtain ⟨bl, hb1, hb2⟩ := skip_split l
  unfold quotedL at h
  cases hs : skipL l with
  | nil => rw [hs] at h; cases h
  | cons c cs =>
    rw [hs] at h hb1
    simp only at h
    split at h
    · rename_i hc
      subst hc
      obtain ⟨a, rfl, ha⟩ := quoted_local cs.length [] cs v r (Nat.le_refl _) h
      refine ⟨bl ++ 34 :: a, by rw [hb1]; simp, by simp, fun x => ?_, ?_⟩
      · unfold quotedL
        rw [List.append_assoc, skip_app hb2, List.cons_append, skipL_of (by decide)]
        simp only [if_true]
        exact ha x
      · rw [hb1, cut_pass 125 bl _ (Pass.blanks hb2), cut_f, if_pos rfl, cut_quoted 125 _ [] (a ++ r) v r (Nat.le_refl _) h, if_neg (by decide)]
    · cases h
theorem loop_local : ∀ (f : Nat) (acc : List Mt) (l : Bs) (ms : List Mt) (r : Bs), matchLoop f acc l = .ok ms r →
    ∃ a, l = a ++ r ∧ a ≠ [] ∧ (∀ (x : Bs) (f' : Nat), a.length ≤ f' → matchLoop f' acc (a ++ x) = .ok ms x) ∧ cutGo 125 false l = some r
  | 0, acc, l, ms, r, h => by cases h
  | f + 1, acc, l, ms, r, h => by
    rw [matchLoop] at h
    cases h1 : keyL l with
    | bad y => rw [h1] at h; cases h
    | ok k l1 =>
      rw [h1] at h
      simp only at h
      cases h2 : opL l1 with
      | bad y => rw [h2] at h; cases h
      | ok n l2 =>
        rw [h2] at h
        simp only at h
        by_cases hn : n = 0
        · rw [if_pos hn] at h; cases h
        · rw [if_neg hn] at h
          cases h3 : quotedL l2 with
          | bad y => rw [h3] at h; cases h
          | ok v l3 =>
            rw [h3] at h
            simp only at h
            obtain ⟨a1, e1, n1, p1, k1⟩ := key_local h1
            obtain ⟨a2, e2, n2, p2, k2⟩ := op_local h2 hn
            obtain ⟨a3, e3, n3, k3, c3⟩ := quoted_local' h3
            obtain ⟨bl, hb1, hb2⟩ := skip_split l3
            have hcut : cutGo 125 false l = cutGo 125 false (skipL l3) := by
              rw [e1, cut_pass 125 a1 _ p1, e2, cut_pass 125 a2 _ p2, c3]
              conv => lhs; rw [hb1]
              rw [cut_pass 125 bl _ (Pass.blanks hb2)]
            have hd1 : ∀ (z : Bs), (a2 ++ z).head? = (a2 ++ l2).head? := fun z => by
              cases a2 with
              | nil => exact absurd rfl n2
              | cons c cs => rfl
            have hd2 : ∀ (z : Bs), (a3 ++ z).head? = (a3 ++ l3).head? := fun z => by
              cases a3 with
              | nil => exact absurd rfl n3
              | cons c cs => rfl
            have step : ∀ (z : Bs) (f' : Nat), matchLoop (f' + 1) acc (a1 ++ (a2 ++ (a3 ++ z))) = match takeL [125] (skipL z) with
                | some r => .ok (acc ++ [⟨n, k, v⟩]) r
                | none => match takeL [44] (skipL z) with
                  | some r => matchLoop f' (acc ++ [⟨n, k, v⟩]) r
                  | none => .bad (skipL z) := fun z f' => by
              rw [matchLoop, k1 _ (by rw [e2]; exact hd1 _)]
              simp only
              rw [k2 _ (by rw [e3]; exact hd2 _)]
              simp only
              rw [if_neg hn, k3]
              rfl
            have hlen1 : 1 ≤ a1.length := List.length_pos_iff.2 n1
            cases h4 : takeL [125] (skipL l3) with
            | some y =>
              rw [h4] at h
              simp only [PR.ok.injEq] at h
              obtain ⟨rfl, rfl⟩ := h
              have e4 := takeL_some h4
              refine ⟨a1 ++ (a2 ++ (a3 ++ (bl ++ [125]))), ?_, by simp [n1], fun x f' hf => ?_, ?_⟩
              · rw [e1, e2, e3]
                conv => lhs; rw [hb1, e4]
                simp
              · obtain ⟨g, rfl⟩ : ∃ g, f' = g + 1 := ⟨f' - 1, by simp only [List.length_append] at hf; omega⟩
                have : a1 ++ (a2 ++ (a3 ++ (bl ++ [125]))) ++ x = a1 ++ (a2 ++ (a3 ++ (bl ++ (125 :: x)))) := by simp
                rw [this, step, skip_app hb2, skipL_of (by decide), show (125 : UInt8) :: x = [125] ++ x from rfl, takeL_app]
              · rw [hcut, e4, show ([125] : Bs) ++ y = 125 :: y from rfl, cut_f, if_neg (by decide), if_pos rfl]
            | none =>
              rw [h4] at h
              simp only at h
              cases h5 : takeL [44] (skipL l3) with
              | none => rw [h5] at h; cases h
              | some y =>
                rw [h5] at h
                simp only at h
                have e5 := takeL_some h5
                obtain ⟨a4, e6, n4, k4, c4⟩ := loop_local f _ y ms r h
                refine ⟨a1 ++ (a2 ++ (a3 ++ (bl ++ 44 :: a4))), ?_, by simp [n1], fun x f' hf => ?_, ?_⟩
                · rw [e1, e2, e3]
                  conv => lhs; rw [hb1, e5, e6]
                  simp
                · obtain ⟨g, rfl⟩ : ∃ g, f' = g + 1 := ⟨f' - 1, by simp only [List.length_append] at hf; omega⟩
                  have : a1 ++ (a2 ++ (a3 ++ (bl ++ 44 :: a4))) ++ x = a1 ++ (a2 ++ (a3 ++ (bl ++ (44 :: (a4 ++ x))))) := by simp
                  rw [this, step, skip_app hb2, skipL_of (by decide), takeL_none1 (by simp), show (44 : UInt8) :: (a4 ++ x) = [44] ++ (a4 ++ x) from rfl, takeL_app]
                  simp only
                  exact k4 x g (by simp only [List.length_append, List.length_cons] at hf; omega)
                · rw [hcut, e5, show ([44] : Bs) ++ y = 44 :: y from rfl, cut_f, if_neg (by decide), if_neg (by decide), c4]
theorem match_local {l r : Bs} {ms : List Mt} (h : matchL l = .ok ms r) : ∃ a, l = a ++ r ∧ (∀ x : Bs, matchL (a ++ x) = .ok ms x) ∧ cutGo 125 false l = some r := by
  obtain ⟨bl, hb1, hb2⟩ := skip_split l
  unfold matchL at h
  cases h1 : takeL [123] (skipL l) with
  | none => rw [h1] at h; cases h
  | some l1 =>
    rw [h1] at h
    simp only at h
    have e1 := takeL_some h1
    obtain ⟨b2, hc1, hc2⟩ := skip_split l1
    have hcut : cutGo 125 false l = cutGo 125 false (skipL l1) := by
      conv => lhs; rw [hb1, e1, hc1]
      rw [cut_pass 125 bl _ (Pass.blanks hb2), show ([123] : Bs) ++ (b2 ++ skipL l1) = 123 :: (b2 ++ skipL l1) from rfl, cut_f, if_neg (by decide), if_neg (by decide), cut_pass 125 b2 _ (Pass.blanks hc2)]
    cases h2 : takeL [125] (skipL l1) with
    | some y =>
      rw [h2] at h
      simp only [PR.ok.injEq] at h
      obtain ⟨rfl, rfl⟩ := h
      have e2 := takeL_some h2
      refine ⟨bl ++ (123 :: (b2 ++ [125])), ?_, fun x => ?_, ?_⟩
      · conv => lhs; rw [hb1, e1, hc1, e2]
        simp
      · have : bl ++ (123 :: (b2 ++ [125])) ++ x = bl ++ (123 :: (b2 ++ 125 :: x)) := by simp
        unfold matchL
        rw [this, skip_app hb2, skipL_of (by decide), show (123 : UInt8) :: (b2 ++ 125 :: x) = [123] ++ (b2 ++ 125 :: x) from rfl, takeL_app]
        simp only
        rw [skip_app hc2, skipL_of (by decide), show (125 : UInt8) :: x = [125] ++ x from rfl, takeL_app]
      · rw [hcut, e2, show ([125] : Bs) ++ y = 125 :: y from rfl, cut_f, if_neg (by decide), if_pos rfl]
    | none =>
      rw [h2] at h
      simp only at h
      obtain ⟨a, e3, n3, k3, c3⟩ := loop_local _ _ _ _ _ h
      refine ⟨bl ++ (123 :: (b2 ++ a)), ?_, fun x => ?_, ?_⟩
      · conv => lhs; rw [hb1, e1, hc1, e3]
        simp
      · have : bl ++ (123 :: (b2 ++ a)) ++ x = bl ++ (123 :: (b2 ++ (a ++ x))) := by simp
        unfold matchL
        rw [this, skip_app hb2, skipL_of (by decide), show (123 : UInt8) :: (b2 ++ (a ++ x)) = [123] ++ (b2 ++ (a ++ x)) from rfl, takeL_app]
        simp only
        have hsa : skipL (a ++ x) = a ++ x := by
          have h5 : skipL (skipL l1) = skipL l1 := skip_skip l1
          rw [e3] at h5
          cases a with
          | nil => exact absurd rfl n3
          | cons c cs =>
            rw [List.cons_append] at h5
            by_cases hb : isBlank c = true
            · exfalso
              have : (skipL (c :: (cs ++ r))).length ≤ (cs ++ r).length := by
                unfold skipL
                rw [List.dropWhile_cons, if_pos hb]
                exact (List.dropWhile_suffix _).length_le
              rw [h5] at this
              simp only [List.length_cons, List.length_append] at this
              omega
            · rw [List.cons_append]
              exact skipL_of (by simpa using hb) _
        have htk : takeL [125] (a ++ x) = none := by
          cases a with
          | nil => exact absurd rfl n3
          | cons c cs =>
            rw [List.cons_append]
            apply takeL_none1
            intro hh
            simp only [List.head?_cons, Option.some.injEq] at hh
            subst hh
            rw [e3, List.cons_append, show (125 : UInt8) :: (cs ++ r) = [125] ++ (cs ++ r) from rfl, takeL_app] at h2
            cases h2
        rw [skip_app hc2, hsa, htk]
        simp only
        exact k3 x _ (by simp only [List.length_append, List.length_cons]; omega)
      · rw [hcut, c3]
end Go.Tq
namespace Go.Tq
open Go.Lq

def Blanks (b : Bs) : Prop := ∀ c ∈ b, isBlank c = true
/-- One matcher as it is written: blanks, key, blanks, sign, blanks, text in quotes. -/
structure Piece (p : Bs) (m : Mt) : Prop where
  ex : ∃ b0 b1 b2 q, Blanks b0 ∧ Blanks b1 ∧ Blanks b2 ∧ p = b0 ++ (m.key ++ (b1 ++ (signP m.op ++ (b2 ++ 34 :: q)))) ∧ (∀ x : Bs, quotedBody [] (q ++ x) = .ok m.val x) ∧ m.key ≠ [] ∧ m.key.all isTail = true ∧ (m.op = 1 ∨ m.op = 2 ∨ m.op = 3 ∨ m.op = 4)
  head : ∀ c ∈ m.key.head?, isHead c = true
/-- What stands between the braces, behind its first blanks or not. -/
inductive InnerR : Bs → List Mt → Prop
  | last {p bl : Bs} {m : Mt} : Piece p m → Blanks bl → InnerR (p ++ bl) [m]
  | more {p bl rest : Bs} {m : Mt} {ms : List Mt} : Piece p m → Blanks bl → InnerR rest ms → InnerR (p ++ (bl ++ 44 :: rest)) (m :: ms)
theorem key_shape {l k r : Bs} (h : keyL l = .ok k r) : ∃ b0, Blanks b0 ∧ l = b0 ++ (k ++ r) ∧ k ≠ [] ∧ k.all isTail = true ∧ ∀ c ∈ k.head?, isHead c = true := by
  obtain ⟨bl, hb1, hb2⟩ := skip_split l
  unfold keyL at h
  cases hs : skipL l with
  | nil => rw [hs] at h; cases h
  | cons c cs =>
    rw [hs] at h hb1
    simp only at h
    split at h
    · rename_i hc
      simp only [PR.ok.injEq] at h
      obtain ⟨rfl, rfl⟩ := h
      refine ⟨bl, hb2, ?_, by simp, ?_, fun y hy => ?_⟩
      · conv => lhs; rw [hb1]
        rw [List.cons_append, List.takeWhile_append_dropWhile]
      · rw [List.all_cons, head_is_tail hc, List.all_takeWhile]; rfl
      · simp only [List.head?_cons, Option.mem_some_iff] at hy
        subst hy
        exact hc
    · cases h
theorem op_shape {l r : Bs} {n : Int} (h : opL l = .ok n r) (hn : n ≠ 0) : ∃ b1, Blanks b1 ∧ l = b1 ++ (signP n ++ r) ∧ (n = 1 ∨ n = 2 ∨ n = 3 ∨ n = 4) := by
  obtain ⟨bl, hb1, hb2⟩ := skip_split l
  unfold opL at h
  cases h1 : takeL [61, 126] (skipL l) with
  | some y =>
    rw [h1] at h
    simp only [PR.ok.injEq] at h
    obtain ⟨rfl, rfl⟩ := h
    rw [takeL_some h1] at hb1
    exact ⟨bl, hb2, hb1, by omega⟩
  | none =>
    rw [h1] at h
    simp only at h
    cases h2 : takeL [33, 126] (skipL l) with
    | some y =>
      rw [h2] at h
      simp only [PR.ok.injEq] at h
      obtain ⟨rfl, rfl⟩ := h
      rw [takeL_some h2] at hb1
      exact ⟨bl, hb2, hb1, by omega⟩
    | none =>
      rw [h2] at h
      simp only at h
      cases h3 : takeL [33, 61] (skipL l) with
      | some y =>
        rw [h3] at h
        simp only [PR.ok.injEq] at h
        obtain ⟨rfl, rfl⟩ := h
        rw [takeL_some h3] at hb1
        exact ⟨bl, hb2, hb1, by omega⟩
      | none =>
        rw [h3] at h
        simp only at h
        cases h4 : takeL [61] (skipL l) with
        | some y =>
          rw [h4] at h
          simp only [PR.ok.injEq] at h
          obtain ⟨rfl, rfl⟩ := h
          rw [takeL_some h4] at hb1
          exact ⟨bl, hb2, hb1, by omega⟩
        | none =>
          rw [h4] at h
          simp only at h
          cases h5 : takeL [33] (skipL l) with
          | some y => rw [h5] at h; cases h
          | none =>
            rw [h5] at h
            simp only [PR.ok.injEq] at h
            exact absurd h.1.symm hn
theorem quoted_shape {l v r : Bs} (h : quotedL l = .ok v r) : ∃ b2 q, Blanks b2 ∧ l = b2 ++ 34 :: (q ++ r) ∧ ∀ x : Bs, quotedBody [] (q ++ x) = .ok v x := by
  obtain ⟨bl, hb1, hb2⟩ := skip_split l
  unfold quotedL at h
  cases hs : skipL l with
  | nil => rw [hs] at h; cases h
  | cons c cs =>
    rw [hs] at h hb1
    simp only at h
    split at h
    · rename_i hc
      subst hc
      obtain ⟨a, rfl, ha⟩ := quoted_local cs.length [] cs v r (Nat.le_refl _) h
      exact ⟨bl, a, hb2, hb1, ha⟩
    · cases h
theorem loop_inner : ∀ (f : Nat) (acc : List Mt) (l : Bs) (ms : List Mt) (r : Bs), matchLoop f acc l = .ok ms r → ∃ inner ms', l = inner ++ 125 :: r ∧ ms = acc ++ ms' ∧ InnerR inner ms'
  | 0, acc, l, ms, r, h => by cases h
  | f + 1, acc, l, ms, r, h => by
    rw [matchLoop] at h
    cases h1 : keyL l with
    | bad y => rw [h1] at h; cases h
    | ok k l1 =>
      rw [h1] at h
      simp only at h
      cases h2 : opL l1 with
      | bad y => rw [h2] at h; cases h
      | ok n l2 =>
        rw [h2] at h
        simp only at h
        by_cases hn : n = 0
        · rw [if_pos hn] at h; cases h
        · rw [if_neg hn] at h
          cases h3 : quotedL l2 with
          | bad y => rw [h3] at h; cases h
          | ok v l3 =>
            rw [h3] at h
            simp only at h
            obtain ⟨b0, hb0, e1, k1, k2, k3⟩ := key_shape h1
            obtain ⟨b1, hb1, e2, o2⟩ := op_shape h2 hn
            obtain ⟨b2, q, hb2, e3, q3⟩ := quoted_shape h3
            obtain ⟨bl, hbl, hbl2⟩ := skip_split l3
            have hP : Piece (b0 ++ (k ++ (b1 ++ (signP n ++ (b2 ++ 34 :: q))))) ⟨n, k, v⟩ := ⟨⟨b0, b1, b2, q, hb0, hb1, hb2, rfl, q3, k1, k2, o2⟩, k3⟩
            have el : l = (b0 ++ (k ++ (b1 ++ (signP n ++ (b2 ++ 34 :: q))))) ++ l3 := by rw [e1, e2, e3]; simp
            cases h4 : takeL [125] (skipL l3) with
            | some y =>
              rw [h4] at h
              simp only [PR.ok.injEq] at h
              obtain ⟨rfl, rfl⟩ := h
              refine ⟨_, [⟨n, k, v⟩], ?_, rfl, .last hP hbl2⟩
              rw [el]
              conv => lhs; rw [hbl, takeL_some h4]
              simp
            | none =>
              rw [h4] at h
              simp only at h
              cases h5 : takeL [44] (skipL l3) with
              | none => rw [h5] at h; cases h
              | some y =>
                rw [h5] at h
                simp only at h
                obtain ⟨inner, ms', e6, e7, hI⟩ := loop_inner f _ y ms r h
                refine ⟨_, ⟨n, k, v⟩ :: ms', ?_, by rw [e7]; simp, .more hP hbl2 hI⟩
                rw [el]
                conv => lhs; rw [hbl, takeL_some h5, e6]
                simp
theorem match_inner {l r : Bs} {ms : List Mt} (h : matchL (123 :: l) = .ok ms r) : ∃ b inner, l = b ++ (inner ++ 125 :: r) ∧ Blanks b ∧ ((inner = [] ∧ ms = []) ∨ InnerR inner ms) := by
  unfold matchL at h
  rw [skipL_of (by decide), show (123 : UInt8) :: l = [123] ++ l from rfl, takeL_app] at h
  simp only at h
  obtain ⟨b, hb1, hb2⟩ := skip_split l
  cases h2 : takeL [125] (skipL l) with
  | some y =>
    rw [h2] at h
    simp only [PR.ok.injEq] at h
    obtain ⟨rfl, rfl⟩ := h
    refine ⟨b, [], ?_, hb2, .inl ⟨rfl, rfl⟩⟩
    conv => lhs; rw [hb1, takeL_some h2]
    rfl
  | none =>
    rw [h2] at h
    simp only at h
    obtain ⟨inner, ms', e, e2, hI⟩ := loop_inner _ _ _ _ _ h
    rw [List.nil_append] at e2
    subst e2
    refine ⟨b, inner, ?_, hb2, .inr hI⟩
    conv => lhs; rw [hb1, e]
theorem piece_skip {b p : Bs} {m : Mt} (hb : Blanks b) (h : Piece (b ++ p) m) : ∃ p', skipL (b ++ p) = p' ∧ Piece p' m := by
  obtain ⟨⟨b0, b1, b2, q, hb0, hb1, hb2, e, hq, k1, k2, o⟩, hh⟩ := h
  have hs : skipL (b ++ p) = m.key ++ (b1 ++ (signP m.op ++ (b2 ++ 34 :: q))) := by
    rw [e, skip_app hb0]
    cases hk : m.key with
    | nil => exact absurd hk k1
    | cons c cs =>
      have hc : isHead c = true := hh c (by rw [hk]; rfl)
      exact skipL_of (tail_not (head_is_tail hc)).2.2 _
  exact ⟨_, hs, ⟨⟨[], b1, b2, q, (fun c hc => by cases hc), hb1, hb2, rfl, hq, k1, k2, o⟩, hh⟩⟩
theorem skip_eq_of_piece {p : Bs} {m : Mt} (h : Piece p m) (x : Bs) : ∃ p', skipL (p ++ x) = p' ++ x ∧ Piece p' m := by
  obtain ⟨⟨b0, b1, b2, q, hb0, hb1, hb2, e, hq, k1, k2, o⟩, hh⟩ := h
  refine ⟨m.key ++ (b1 ++ (signP m.op ++ (b2 ++ 34 :: q))), ?_, ⟨⟨[], b1, b2, q, (fun c hc => by cases hc), hb1, hb2, rfl, hq, k1, k2, o⟩, hh⟩⟩
  rw [e, List.append_assoc, skip_app hb0]
  cases hk : m.key with
  | nil => exact absurd hk k1
  | cons c cs =>
    have hc : isHead c = true := hh c (by rw [hk]; rfl)
    exact skipL_of (tail_not (head_is_tail hc)).2.2 _
/-- Without its first blanks it is what it was. -/
theorem inner_skip {l : Bs} {ms : List Mt} (h : InnerR l ms) : InnerR (skipL l) ms := by
  cases h with
  | last hP hb =>
    obtain ⟨p', e, hp⟩ := skip_eq_of_piece hP _
    rw [e]
    exact .last hp hb
  | more hP hb hI =>
    obtain ⟨p', e, hp⟩ := skip_eq_of_piece hP _
    rw [e]
    exact .more hp hb hI
theorem key_read {b0 k x : Bs} (hb : Blanks b0) (hne : k ≠ []) (hk : k.all isTail = true) (hh : ∀ c ∈ k.head?, isHead c = true) (hx : ∀ c ∈ x.head?, isTail c = false) : keyL (b0 ++ (k ++ x)) = .ok k x := by
  cases k with
  | nil => exact absurd rfl hne
  | cons c cs =>
    have hc : isHead c = true := hh c rfl
    unfold keyL
    rw [skip_app hb, List.cons_append, skipL_of (tail_not (head_is_tail hc)).2.2]
    simp only
    simp only [List.all_cons, Bool.and_eq_true] at hk
    obtain ⟨t1, t2⟩ := tw_app cs x hk.2 hx
    rw [if_pos hc, t1, t2]
theorem op_read {b1 x : Bs} {n : Int} (hb : Blanks b1) (hn : n = 1 ∨ n = 2 ∨ n = 3 ∨ n = 4) (hx : x.head? ≠ some 126) : opL (b1 ++ (signP n ++ x)) = .ok n x := by
  unfold opL
  rw [skip_app hb]
  rcases hn with rfl | rfl | rfl | rfl
  · rw [show signP 1 ++ x = 61 :: x from rfl, skipL_of (by decide), takeL_none2 hx, takeL_none1 (by simp), takeL_none1 (by simp), show (61 : UInt8) :: x = [61] ++ x from rfl, takeL_app]
  · rw [show signP 2 ++ x = 33 :: 61 :: x from rfl, skipL_of (by decide), takeL_none1 (by simp), takeL_none2 (by simp), show (33 : UInt8) :: 61 :: x = [33, 61] ++ x from rfl, takeL_app]
  · rw [show signP 3 ++ x = 61 :: 126 :: x from rfl, skipL_of (by decide), show (61 : UInt8) :: 126 :: x = [61, 126] ++ x from rfl, takeL_app]
  · rw [show signP 4 ++ x = 33 :: 126 :: x from rfl, skipL_of (by decide), takeL_none1 (by simp), show (33 : UInt8) :: 126 :: x = [33, 126] ++ x from rfl, takeL_app]
theorem blank_head {b x : Bs} (hb : Blanks b) : ∀ c ∈ (b ++ x).head?, isBlank c = true ∨ (b = [] ∧ x.head? = some c) := by
  intro c hc
  cases b with
  | nil => exact .inr ⟨rfl, by simpa using hc⟩
  | cons y ys =>
    simp only [List.cons_append, List.head?_cons, Option.mem_some_iff] at hc
    subst hc
    exact .inl (hb y (by simp))
theorem piece_step {p : Bs} {m : Mt} (h : Piece p m) (z : Bs) (f : Nat) (acc : List Mt) : matchLoop (f + 1) acc (p ++ z) = match takeL [125] (skipL z) with
    | some r => .ok (acc ++ [m]) r
    | none => match takeL [44] (skipL z) with
      | some r => matchLoop f (acc ++ [m]) r
      | none => .bad (skipL z) := by
  obtain ⟨⟨b0, b1, b2, q, hb0, hb1, hb2, e, hq, k1, k2, o⟩, hh⟩ := h
  have hs : ∀ y : Bs, ∀ c ∈ (signP m.op ++ y).head?, c = 61 ∨ c = 33 := by
    intro y c hc
    rcases o with h | h | h | h <;> rw [h] at hc <;> (simp [signP] at hc; simp [hc])
  have e2 : p ++ z = b0 ++ (m.key ++ (b1 ++ (signP m.op ++ (b2 ++ 34 :: (q ++ z))))) := by rw [e]; simp
  have hk := key_read (x := b1 ++ (signP m.op ++ (b2 ++ 34 :: (q ++ z)))) hb0 k1 k2 hh (fun c hc => by
    rcases blank_head hb1 c hc with h | ⟨_, h⟩
    · exact (blank_not h).2.2.1
    · rcases hs _ c h with rfl | rfl <;> decide)
  have ho := op_read (x := b2 ++ 34 :: (q ++ z)) hb1 o (fun hc => by
    rcases blank_head hb2 126 hc with h | ⟨_, h⟩
    · exact absurd h (by decide)
    · simp at h)
  have hqq : quotedL (b2 ++ 34 :: (q ++ z)) = .ok m.val z := by
    unfold quotedL
    rw [skip_app hb2, skipL_of (by decide)]
    simp only [if_true]
    exact hq z
  rw [matchLoop, e2, hk]
  simp only
  rw [ho]
  simp only
  rw [if_neg (by omega), hqq]
  rfl
theorem piece_first {p : Bs} {m : Mt} (h : Piece p m) (z : Bs) : takeL [125] (skipL (p ++ z)) = none := by
  obtain ⟨⟨b0, b1, b2, q, hb0, hb1, hb2, e, hq, k1, k2, o⟩, hh⟩ := h
  rw [e, List.append_assoc, skip_app hb0]
  cases hk : m.key with
  | nil => exact absurd hk k1
  | cons c cs =>
    have hc : isHead c = true := hh c (by rw [hk]; rfl)
    rw [List.append_assoc, List.cons_append, skipL_of (tail_not (head_is_tail hc)).2.2]
    apply takeL_none1
    simp only [List.head?_cons, ne_eq, Option.some.injEq]
    exact (tail_not (head_is_tail hc)).2.1
/-- A piece alone, in braces. -/
theorem piece_match {p : Bs} {m : Mt} (h : Piece p m) : matchL (123 :: (p ++ [125])) = .ok [m] [] := by
  unfold matchL
  rw [skipL_of (by decide), show (123 : UInt8) :: (p ++ [125]) = [123] ++ (p ++ [125]) from rfl, takeL_app]
  simp only
  rw [piece_first h]
  simp only
  obtain ⟨p', e, hp⟩ := skip_eq_of_piece h [125]
  rw [e, piece_step hp]
  rfl
/-- Where a piece's text begins and ends: the first quote, and the cut from there. -/
theorem piece_quote {p : Bs} {m : Mt} (h : Piece p m) (z : Bs) : ∃ u q, p = u ++ 34 :: q ∧ (∀ c ∈ u, c ≠ 34) ∧ cutGo 34 false (34 :: (q ++ z)) = some z ∧ quotedBody [] q = .ok m.val [] := by
  obtain ⟨⟨b0, b1, b2, q, hb0, hb1, hb2, e, hq, k1, k2, o⟩, hh⟩ := h
  refine ⟨b0 ++ (m.key ++ (b1 ++ (signP m.op ++ b2))), q, by rw [e]; simp, ?_, ?_, ?_⟩
  · intro c hc
    simp only [List.mem_append] at hc
    rcases hc with h | h | h | h | h
    · exact (blank_not (hb0 c h)).1
    · exact (tail_not (List.all_eq_true.1 k2 c h)).1
    · exact (blank_not (hb1 c h)).1
    · rcases o with ho | ho | ho | ho <;> rw [ho] at h <;> (simp [signP] at h; rcases h with rfl | rfl <;> decide)
    · exact (blank_not (hb2 c h)).1
  · rw [cut_f, if_pos rfl, cut_quoted 34 _ [] (q ++ z) m.val z (Nat.le_refl _) (hq z), if_pos rfl]
  · have := hq []
    rwa [List.append_nil] at this
end Go.Tq
