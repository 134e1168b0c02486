/- What is quoted is longer by its signs (plain). -/
import Derived.Test.YtaniaknphjnlkaaGreatDoorLqPure
namespace Go.Lq

def isQ (c : UInt8) : Bool := c == 34 || c == 92 || c == 10
theorem esc_len (c : UInt8) : (esc c).length = 1 + (if isQ c then 1 else 0) := by
  unfold esc isQ
  by_cases h1 : c = 34
  · subst h1; rfl
  · by_cases h2 : c = 92
    · subst h2; rfl
    · by_cases h3 : c = 10
      · subst h3; rfl
      · simp [h1, h2, h3]
theorem flat_len (l : Bs) : (l.flatMap esc).length = l.length + l.countP isQ := by
  induction l with
  | nil => rfl
  | cons c cs ih =>
    rw [List.flatMap_cons, List.length_append, ih, esc_len, List.countP_cons, List.length_cons]
    omega
theorem esc_plain {c : UInt8} (h : isQ c = false) : esc c = [c] := by
  simp [isQ] at h
  simp [esc, h.1.1, h.1.2, h.2]
theorem flat_id {l : Bs} (h : l.countP isQ = 0) : l.flatMap esc = l := by
  induction l with
  | nil => rfl
  | cons c cs ih =>
    rw [List.countP_cons] at h
    have h1 : isQ c = false := by
      cases hc : isQ c with
      | false => rfl
      | true => rw [hc] at h; simp at h
    rw [List.flatMap_cons, esc_plain h1, ih (by omega)]
    rfl
theorem count3 (l : Bs) : l.countP isQ = l.count 10 + (l.count 92 + l.count 34) := by
  induction l with
  | nil => rfl
  | cons c cs ih =>
    rw [List.countP_cons, ih, List.count_cons, List.count_cons, List.count_cons]
    by_cases h1 : c = 34
    · subst h1; simp [isQ]; omega
    · by_cases h2 : c = 92
      · subst h2; simp [isQ]; omega
      · by_cases h3 : c = 10
        · subst h3; simp [isQ]; omega
        · simp [isQ, h1, h2, h3]
theorem take_flat (l : Bs) (i : Nat) (h : i < l.length) : (l.take (i + 1)).flatMap esc = (l.take i).flatMap esc ++ esc l[i] := by
  rw [List.take_add_one, List.getElem?_eq_getElem h, List.flatMap_append]
  simp
theorem take_count (l : Bs) (i : Nat) (h : i < l.length) : (l.take (i + 1)).countP isQ = (l.take i).countP isQ + (if isQ l[i] then 1 else 0) := by
  rw [List.take_add_one, List.getElem?_eq_getElem h, List.countP_append]
  simp [List.countP_cons]
end Go.Lq
