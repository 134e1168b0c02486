/- Queries of lines, in plain Lean: what is read of a text. -/
import Derived.Below
set_option linter.unusedVariables false
set_option linter.unusedSimpArgs false
namespace Go.Lq

abbrev Bs := List UInt8
/-- What a reading says: a value and what is left, or the place at which it can not go on (by what is left there). -/
inductive PR (α : Type) where
  | ok (v : α) (rest : Bs)
  | bad (rest : Bs)

def isBlank (c : UInt8) : Bool := c == 32 || c == 9
def skipL (l : Bs) : Bs := l.dropWhile isBlank
def isHead (c : UInt8) : Bool := (97 ≤ c && c ≤ 122) || (65 ≤ c && c ≤ 90) || c == 95
def isDigit (c : UInt8) : Bool := 48 ≤ c && c ≤ 57
def isTail (c : UInt8) : Bool := isHead c || isDigit c || c == 46

/-- What stands behind a quote's sign. -/
def quotedBody : Bs → Bs → PR Bs
  | _, [] => .bad []
  | acc, c :: cs =>
    if c = 34 then .ok acc cs else
    if c = 10 then .bad (c :: cs) else
    if c = 92 then
      match cs with
      | [] => .bad []
      | d :: ds =>
        if d = 34 then quotedBody (acc ++ [34]) ds else
        if d = 92 then quotedBody (acc ++ [92]) ds else
        if d = 110 then quotedBody (acc ++ [10]) ds else .bad (d :: ds)
    else quotedBody (acc ++ [c]) cs
def quotedL (l : Bs) : PR Bs := match skipL l with
  | [] => .bad []
  | c :: cs => if c = 34 then quotedBody [] cs else .bad (c :: cs)
def keyL (l : Bs) : PR Bs := match skipL l with
  | [] => .bad []
  | c :: cs => if isHead c then .ok (c :: cs.takeWhile isTail) (cs.dropWhile isTail) else .bad (c :: cs)
def takeL (t l : Bs) : Option Bs := if t.isPrefixOf l then some (l.drop t.length) else none
/-- An operator: 3 =~, 4 !~, 2 !=, 1 =, 0 none. -/
def opL (l : Bs) : PR Int :=
  match takeL [61, 126] (skipL l) with
  | some r => .ok 3 r
  | none => match takeL [33, 126] (skipL l) with
    | some r => .ok 4 r
    | none => match takeL [33, 61] (skipL l) with
      | some r => .ok 2 r
      | none => match takeL [61] (skipL l) with
        | some r => .ok 1 r
        | none => match takeL [33] (skipL l) with
          | some r => .bad r
          | none => .ok 0 (skipL l)

structure Mt where
  op : Int
  key : Bs
  val : Bs
deriving DecidableEq
structure Qy where
  mat : List Mt
  level : Int
  tests : List Mt
  limit : Int

/-- Matchers behind the brace, so many rounds at most. -/
def matchLoop : Nat → List Mt → Bs → PR (List Mt)
  | 0, _, _ => .bad []
  | f + 1, acc, l => match keyL l with
    | .bad r => .bad r
    | .ok k l1 => match opL l1 with
      | .bad r => .bad r
      | .ok n l2 => if n = 0 then .bad l2 else match quotedL l2 with
        | .bad r => .bad r
        | .ok v l3 => match takeL [125] (skipL l3) with
          | some r => .ok (acc ++ [⟨n, k, v⟩]) r
          | none => match takeL [44] (skipL l3) with
            | some r => matchLoop f (acc ++ [⟨n, k, v⟩]) r
            | none => .bad (skipL l3)
def matchL (l : Bs) : PR (List Mt) := match takeL [123] (skipL l) with
  | none => .bad (skipL l)
  | some l1 => match takeL [125] (skipL l1) with
    | some r => .ok [] r
    | none => matchLoop (l.length + 1) [] (skipL l1)

def numOf (d : Bs) : Nat := d.foldl (fun n c => n * 10 + (c.toNat - 48)) 0
def numberL (most : Int) (l : Bs) : PR Int :=
  let l1 := skipL l
  let d := l1.takeWhile isDigit
  if d = [] ∨ d.head? = some 48 ∨ most < (numOf d : Int) then .bad l1 else .ok (numOf d) (l1.dropWhile isDigit)

def wLevel : Bs := [108, 101, 118, 101, 108]
def wLimit : Bs := [108, 105, 109, 105, 116]
def keyedL (q : Qy) (l : Bs) : PR Qy :=
  let l0 := skipL l
  match keyL l0 with
  | .bad r => .bad r
  | .ok k l1 => match opL l1 with
    | .bad r => .bad r
    | .ok n l2 =>
      if n ≠ 0 then (match quotedL l2 with
        | .bad r => .bad r
        | .ok v l3 => .ok { q with tests := q.tests ++ [⟨n, k, v⟩] } l3) else
      if k = wLevel then (if q.level ≠ 0 then .bad l0 else match numberL 24 l2 with
        | .bad r => .bad r
        | .ok n r => .ok { q with level := n } r) else
      if k = wLimit then (if q.limit ≠ 0 then .bad l0 else match numberL 1000 l2 with
        | .bad r => .bad r
        | .ok n r => .ok { q with limit := n } r) else .bad l2
/-- One step, of what stands next behind blanks. -/
def stepL (q : Qy) (l : Bs) : PR Qy :=
  match takeL [124, 61] l with
  | some r => (match quotedL r with
    | .bad r => .bad r
    | .ok v r => .ok { q with tests := q.tests ++ [⟨3, [], v⟩] } r)
  | none => match takeL [33, 61] l with
    | some r => (match quotedL r with
      | .bad r => .bad r
      | .ok v r => .ok { q with tests := q.tests ++ [⟨4, [], v⟩] } r)
    | none => match takeL [124] l with
      | some r => keyedL q r
      | none => match takeL [33] l with
        | some r => .bad r
        | none => .bad l
def stepsLoop : Nat → Qy → Bs → PR Qy
  | 0, _, _ => .bad []
  | f + 1, q, l => match skipL l with
    | [] => .ok q []
    | c :: cs => match stepL q (c :: cs) with
      | .bad r => .bad r
      | .ok q' r => stepsLoop f q' r
/-- What stands in a text. -/
def readL (l : Bs) : PR Qy := match matchL l with
  | .bad r => .bad r
  | .ok m r => stepsLoop (l.length + 1) ⟨m, 0, [], 0⟩ r
end Go.Lq

namespace Go.Lq
/-! ### What is written -/
def esc (c : UInt8) : Bs := if c = 34 then [92, 34] else if c = 92 then [92, 92] else if c = 10 then [92, 110] else [c]
def quoteP (v : Bs) : Bs := 34 :: (v.flatMap esc ++ [34])
def signP (n : Int) : Bs := if n = 1 then [61] else if n = 2 then [33, 61] else if n = 3 then [61, 126] else if n = 4 then [33, 126] else []
def mtText (m : Mt) : Bs := m.key ++ (signP m.op ++ quoteP m.val)
def joinP (sep : Bs) : List Bs → Bs
  | [] => []
  | [x] => x
  | x :: y :: r => x ++ (sep ++ joinP sep (y :: r))
def matchText (l : List Mt) : Bs := 123 :: (joinP [44, 32] (l.map mtText) ++ [125])
def testText (m : Mt) : Bs := if m.key ≠ [] then 124 :: 32 :: mtText m else (if m.op = 3 then [124, 61, 32] else [33, 61, 32]) ++ quoteP m.val
def digs (n : Nat) : Bs := if n < 10 then [UInt8.ofNat (48 + n)] else digs (n / 10) ++ [UInt8.ofNat (48 + n % 10)]
def levelText (n : Int) : Bs := 124 :: 32 :: (wLevel ++ 32 :: digs n.toNat)
def limitText (n : Int) : Bs := 124 :: 32 :: (wLimit ++ 32 :: digs n.toNat)
def partsP (q : Qy) : List Bs := matchText q.mat :: ((if q.level ≠ 0 then [levelText q.level] else []) ++ q.tests.map testText ++ (if q.limit ≠ 0 then [limitText q.limit] else []))
def textP (q : Qy) : Bs := joinP [32] (partsP q)

/-! ### What can be; V: right UTF-8 -/
def keyP (s : Bs) : Bool := match s with
  | [] => false
  | c :: cs => s.length ≤ 64 && isHead c && cs.all isTail
def plainP (V : Bs → Bool) (s : Bs) : Bool := s.length ≤ 256 && V s
def valueP (V : Bs → Bool) (s : Bs) : Bool := s ≠ [] && plainP V s
def wrongM (V : Bs → Bool) : List Mt → Int
  | [] => 0
  | m :: l => if m.op < 1 ∨ 4 < m.op then 42 else if !keyP m.key then 40 else if !plainP V m.val then 41 else wrongM V l
def rightM (V : Bs → Bool) (l : List Mt) : Int := if 8 < l.length then 7 else wrongM V l
def wrongT (V : Bs → Bool) (m : Mt) : Int := if m.key ≠ [] then rightM V [m] else if m.op ≠ 3 ∧ m.op ≠ 4 then 42 else if !valueP V m.val then 41 else 0
def wrongTs (V : Bs → Bool) : List Mt → Int
  | [] => 0
  | m :: l => if wrongT V m ≠ 0 then wrongT V m else wrongTs V l
def rightQ (V : Bs → Bool) (q : Qy) : Int :=
  if rightM V q.mat ≠ 0 then rightM V q.mat else
  if q.level < 0 ∨ 24 < q.level ∨ q.limit < 0 ∨ 1000 < q.limit then 1 else
  if 8 < q.tests.length then 7 else
  if wrongTs V q.tests ≠ 0 then wrongTs V q.tests else
  if 1024 < (textP q).length then 4 else 0

end Go.Lq
