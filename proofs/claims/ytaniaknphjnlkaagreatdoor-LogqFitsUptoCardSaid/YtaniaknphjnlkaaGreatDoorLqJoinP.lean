/- Joined texts (plain). -/
import Derived.Test.YtaniaknphjnlkaaGreatDoorLqPure
import Derived.Lib.Join
namespace Go.Lq

theorem joinP_inter (sep : Bs) : ∀ xs : List Bs, Go.Lib.join xs sep = joinP sep xs
  | [] => rfl
  | [x] => by simp [Go.Lib.join, List.intercalate, joinP]
  | x :: y :: r => by
    have ih := joinP_inter sep (y :: r)
    unfold Go.Lib.join List.intercalate at ih ⊢
    rw [joinP, ← ih]
    simp
theorem joinP_len (sep : Bs) (B : Nat) : ∀ xs : List Bs, (∀ x ∈ xs, x.length ≤ B) → (joinP sep xs).length ≤ xs.length * (B + sep.length)
  | [], _ => by simp [joinP]
  | [x], h => by
    have := h x (by simp)
    simp [joinP]
    omega
  | x :: y :: r, h => by
    have ih := joinP_len sep B (y :: r) (fun z hz => h z (by simp_all))
    have := h x (by simp)
    rw [joinP, List.length_append, List.length_append, List.length_cons, Nat.add_mul]
    omega
end Go.Lq
