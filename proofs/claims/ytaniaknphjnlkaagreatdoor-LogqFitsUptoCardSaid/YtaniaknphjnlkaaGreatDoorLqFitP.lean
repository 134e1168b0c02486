/- Which record fits: plain. -/
import Derived.Lib.IndexMore
import Derived.Test.YtaniaknphjnlkaaGreatDoorLqPure
namespace Go.Lq
structure At where
  key : Bs
  val : Bs
deriving DecidableEq
/-- A key's value. -/
def getP : List At → Bs → Bs × Bool
  | [], _ => ([], false)
  | a :: l, k => if a.key = k then (a.val, true) else getP l k
def holdsP (m : Mt) (v : Bs) : Bool :=
  if m.op = 1 then decide (v = m.val) else if m.op = 2 then !decide (v = m.val) else if m.op = 3 then Lib.contains v m.val else if m.op = 4 then !Lib.contains v m.val else false
def fitsM (l : List At) : List Mt → Bool
  | [] => true
  | m :: ms => if holdsP m (getP l m.key).1 then fitsM l ms else false
def testP (l : List At) (text : Bs) (m : Mt) : Bool :=
  if m.key = [] then decide (m.op = 3 ∨ m.op = 4) && holdsP m text else holdsP m (getP l m.key).1
def testsP (l : List At) (text : Bs) : List Mt → Bool
  | [] => true
  | m :: ms => if testP l text m then testsP l text ms else false
def fitsQ (q : Qy) (kind level : Int) (l : List At) (text : Bs) : Bool :=
  decide (kind = 2) && (decide (q.level ≤ level) && (fitsM l q.mat && testsP l text q.tests))
theorem fitsM_drop {l : List At} {ms : List Mt} {k : Nat} (hk : k < ms.length) : fitsM l (ms.drop k) = if holdsP ms[k] (getP l ms[k].key).1 then fitsM l (ms.drop (k + 1)) else false := by
  rw [List.drop_eq_getElem_cons hk]; rfl
theorem testsP_drop {l : List At} {t : Bs} {ms : List Mt} {k : Nat} (hk : k < ms.length) : testsP l t (ms.drop k) = if testP l t ms[k] then testsP l t (ms.drop (k + 1)) else false := by
  rw [List.drop_eq_getElem_cons hk]; rfl
theorem getP_drop {l : List At} {x : Bs} {k : Nat} (hk : k < l.length) : getP (l.drop k) x = if l[k].key = x then (l[k].val, true) else getP (l.drop (k + 1)) x := by
  rw [List.drop_eq_getElem_cons hk]; rfl
theorem fitsM_one (l : List At) (m : Mt) : fitsM l [m] = holdsP m (getP l m.key).1 := by
  unfold fitsM fitsM
  cases holdsP m (getP l m.key).1 <;> rfl
theorem occ_iff {s sub : Bs} {i : Nat} (hi : i + sub.length ≤ s.length) : Lib.occAt s sub i = decide ((s.drop i).take sub.length = sub) := by
  rw [Lib.occAt_iff_take s sub i hi, Bool.eq_iff_iff]
  simp
theorem contains_yes {s sub : Bs} {i : Nat} (hi : i + sub.length ≤ s.length) (h : (s.drop i).take sub.length = sub) (hn : ∀ j, j < i → Lib.occAt s sub j = false) : Lib.contains s sub = true := by
  unfold Lib.contains
  rw [Lib.index_first (i := i) (by omega) (by rw [occ_iff hi, decide_eq_true h]) hn]
  simp
theorem contains_no {s sub : Bs} {i : Nat} (hi : s.length < i + sub.length) (hn : ∀ j, j < i → Lib.occAt s sub j = false) : Lib.contains s sub = false := by
  unfold Lib.contains
  rw [Lib.index_none (fun j hj => ?_)]
  · decide
  · rcases Nat.lt_or_ge j i with h | h
    · exact hn j h
    · cases ho : Lib.occAt s sub j with
      | false => rfl
      | true =>
        rcases Lib.occAt_room ho with h1 | h1
        · omega
        · subst h1
          simp only [List.length_nil] at hi
          omega
end Go.Lq
