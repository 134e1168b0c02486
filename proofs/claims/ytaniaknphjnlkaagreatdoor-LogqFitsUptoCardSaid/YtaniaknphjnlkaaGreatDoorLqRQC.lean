/- The reader with its query: its calls. -/
import Derived.Test.YtaniaknphjnlkaaGreatDoorMf05
import Derived.Test.YtaniaknphjnlkaaGreatDoorLqOp
namespace Go.Proofs.YtaniaknphjnlkaaGreatDoor
open Go.RowKit Go.Bl Go.Lq
variable {B b : Nat} {s : ByteArray} {l r : Bs} {q : Qy} {c2 c4 : Value} {w w' : World}
/-! ### The reader's calls, with its query -/
theorem RQ.drew (h : RQ B b s l q c2 c4 w) : RQ B b s l q c2 c4 w.drew := h.next ((Fr.refl _ _).drew) ⟨h.rd.cells, h.rd.suf, h.rd.short⟩ (Nat.le_refl _)
theorem RQ.drewN (h : RQ B b s l q c2 c4 w) (n : Nat) : RQ B b s l q c2 c4 (w.drewN n) := h.next ((Fr.refl _ _).drewN n) (h.rd.drewN n) (Nat.le_refl _)
/-- What a reading call leaves. -/
def RQ.After {α : Type} (B b : Nat) (s : ByteArray) (q : Qy) (c2 c4 : Value) (pr : PR α) (val : α → Value) (w : World) (e : Ending) (w' : World) : Prop :=
  Fr [b] w w' ∧ Below B w w' ∧ match pr with
    | .ok v r => e = .returned (val v) ∧ RQ B b s r q c2 c4 w'
    | .bad r => e = stopAt s r
theorem RQ.after {α : Type} {pr : PR α} {val : α → Value} {e : Ending} (h : RQ B b s l q c2 c4 w) (hlen : ∀ v r, pr = .ok v r → r.length ≤ l.length)
    (hr : Reads b s c2 (.int .i64 q.level) c4 (.int .i64 q.limit) pr val w e w') : RQ.After B b s q c2 c4 pr val w e w' := by
  refine ⟨hr.1, h.bel1 hr.1, ?_⟩
  have h2 := hr.2
  cases pr with
  | ok v r => exact ⟨h2.1, h.next hr.1 h2.2 (hlen v r rfl)⟩
  | bad r => exact h2
theorem RQ.byte (h : RQ B b s l q c2 c4 w) : Calls Tryz.prog 24 #[.pointer (some ⟨b, 0, none⟩)] w fun e w' =>
      e = .returned (.int .u8 (((skipL l).headD 0).toNat : Int)) ∧ RQ B b s (skipL l) q c2 c4 w' ∧ Below B w w' :=
  (byte_any b s l _ _ _ _ w h.rd).mono fun _ _ hx => ⟨hx.1, h.next hx.2.2 hx.2.1 (skipL_le l), h.bel1 hx.2.2⟩
theorem RQ.byteF (h : RQ B b s l q c2 c4 w) : Calls Tryz.prog 24 #[.pointer (some ⟨b, 0, none⟩)] w fun e w' =>
      e = .returned (.int .u8 (((skipL l).headD 0).toNat : Int)) ∧ RQ B b s (skipL l) q c2 c4 w' ∧ Fr [b] w w' :=
  (byte_any b s l _ _ _ _ w h.rd).mono fun _ _ hx => ⟨hx.1, h.next hx.2.2 hx.2.1 (skipL_le l), hx.2.2⟩
theorem RQ.badF (h : RQ B b s l q c2 c4 w) : Calls Tryz.prog 26 #[.pointer (some ⟨b, 0, none⟩)] w fun e w' => e = stopAt s l ∧ Fr [b] w w' :=
  (bad_any b s l _ _ _ _ w h.rd).mono fun _ _ hx => ⟨hx.1, by rw [hx.2]; exact Fr.refl _ _⟩
theorem RQ.takeF (h : RQ B b s l q c2 c4 w) (t : ByteArray) (ht : t.size ≤ 1024) : Calls Tryz.prog 25 #[.pointer (some ⟨b, 0, none⟩), .string t] w fun e w' => Fr [b] w w' ∧ match takeL t.data.toList l with
      | some r => e = .returned (.bool true) ∧ RQ B b s r q c2 c4 w'
      | none => e = .returned (.bool false) ∧ RQ B b s l q c2 c4 w' :=
  (take_any b s t l _ _ _ _ ht w h.rd).mono fun e w' hx => by
    refine ⟨hx.2.2, ?_⟩
    cases hv : takeL t.data.toList l with
    | none => rw [hv] at hx; exact ⟨hx.1, h.next hx.2.2 hx.2.1 (Nat.le_refl _)⟩
    | some r => rw [hv] at hx; exact ⟨hx.1, h.next hx.2.2 hx.2.1 (by have := takeL_len hv; omega)⟩
theorem RQ.bad (h : RQ B b s l q c2 c4 w) : Calls Tryz.prog 26 #[.pointer (some ⟨b, 0, none⟩)] w fun e w' => e = stopAt s l ∧ Below B w w' :=
  (bad_any b s l _ _ _ _ w h.rd).mono fun _ _ hx => ⟨hx.1, by rw [hx.2]; exact h.bel1 (Fr.refl _ _)⟩
theorem RQ.take (h : RQ B b s l q c2 c4 w) (t : ByteArray) (ht : t.size ≤ 1024) : Calls Tryz.prog 25 #[.pointer (some ⟨b, 0, none⟩), .string t] w fun e w' => Below B w w' ∧ match takeL t.data.toList l with
      | some r => e = .returned (.bool true) ∧ RQ B b s r q c2 c4 w'
      | none => e = .returned (.bool false) ∧ RQ B b s l q c2 c4 w' :=
  (take_any b s t l _ _ _ _ ht w h.rd).mono fun e w' hx => by
    refine ⟨h.bel1 hx.2.2, ?_⟩
    cases hv : takeL t.data.toList l with
    | none => rw [hv] at hx; exact ⟨hx.1, h.next hx.2.2 hx.2.1 (Nat.le_refl _)⟩
    | some r => rw [hv] at hx; exact ⟨hx.1, h.next hx.2.2 hx.2.1 (by have := takeL_len hv; omega)⟩
theorem RQ.key (h : RQ B b s l q c2 c4 w) : Calls Tryz.prog 41 #[.pointer (some ⟨b, 0, none⟩)] w (RQ.After B b s q c2 c4 (keyL l) (fun k => .string ⟨k.toArray⟩) w) :=
  (key_any b s l _ _ _ _ w h.rd).mono fun _ _ hx => h.after (fun _ _ e => Nat.le_of_lt (keyL_len e).1) hx
theorem RQ.op (h : RQ B b s l q c2 c4 w) : Calls Tryz.prog 42 #[.pointer (some ⟨b, 0, none⟩)] w (RQ.After B b s q c2 c4 (opL l) (fun n => .int .i64 n) w) :=
  (op_any b s l _ _ _ _ w h.rd).mono fun _ _ hx => h.after (fun _ _ e => opL_len e) hx
end Go.Proofs.YtaniaknphjnlkaaGreatDoor
