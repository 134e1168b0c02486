/- An operator, if one stands next. -/
import Derived.Test.YtaniaknphjnlkaaGreatDoorLqKey
namespace Go.Proofs.YtaniaknphjnlkaaGreatDoor
open Go.RowKit Go.Bl Go.Lq

def sgn : Nat → ByteArray
  | 0 => ⟨#[61, 126]⟩
  | 1 => ⟨#[33, 126]⟩
  | 2 => ⟨#[33, 61]⟩
  | _ => ⟨#[61]⟩
def opM (m : Bs) : PR Int :=
  match takeL [61, 126] m with
  | some r => .ok 3 r
  | none => match takeL [33, 126] m with
    | some r => .ok 4 r
    | none => match takeL [33, 61] m with
      | some r => .ok 2 r
      | none => match takeL [61] m with
        | some r => .ok 1 r
        | none => match takeL [33] m with
          | some r => .bad r
          | none => .ok 0 m
theorem opL_of {l m : Bs} (h : skipL l = m) : opL l = opM m := by subst h; rfl
def OpRel (b A : Nat) (s : ByteArray) (m : Bs) (c2 c3 c4 c5 : Value) (w : World) (iv : Value) (wr : World) : Prop :=
  ∃ k : Nat, iv = .int .i64 (k : Int) ∧ k ≤ 4 ∧ Rd wr b s m c2 c3 c4 c5 ∧ (∃ T, wr.heap[A]? = some (.cells #[.string (sgn 0), .string (sgn 1), .string (sgn 2), .string (sgn 3)] T (0, 0))) ∧
    (∀ j, j < k → takeL (sgn j).data.toList m = none) ∧ Fr [b] w wr

theorem OpRel.next {b A : Nat} {s : ByteArray} {m : Bs} {c2 c3 c4 c5 : Value} {w wr w2 : World} {k : Nat} {T : TypeId} (hA : wr.heap[A]? = some (.cells #[.string (sgn 0), .string (sgn 1), .string (sgn 2), .string (sgn 3)] T (0, 0)))
    (hj : ∀ j, j < k → takeL (sgn j).data.toList m = none) (hF : Fr [b] w wr) (hne : A ≠ b) (hv : takeL (sgn k).data.toList m = none) (hR3 : Rd w2 b s m c2 c3 c4 c5) (hF3 : Fr [b] wr w2) (hk : k + 1 ≤ 4) {i : Int} (hi : i = ((k + 1 : Nat) : Int)) :
    OpRel b A s m c2 c3 c4 c5 w (.int .i64 i) w2 := by
  subst hi
  refine ⟨k + 1, rfl, hk, hR3, ⟨T, hF3.obj hA (by simpa using hne)⟩, ?_, hF.trans hF3⟩
  intro j hj2
  by_cases e : j = k
  · rw [e]; exact hv
  · exact hj j (by omega)
theorem opM_of {m : Bs} {k : Nat} {r : Bs} (hk : k < 4) (hj : ∀ j, j < k → takeL (sgn j).data.toList m = none) (hv : takeL (sgn k).data.toList m = some r) : opM m = .ok (match k with | 0 => 3 | 1 => 4 | 2 => 2 | _ => 1) r := by
  have hkc : k = 0 ∨ k = 1 ∨ k = 2 ∨ k = 3 := by omega
  unfold opM
  rcases hkc with rfl | rfl | rfl | rfl
  · simp only [show takeL [61, 126] m = some r from hv]
  · simp only [show takeL [61, 126] m = none from hj 0 (by omega), show takeL [33, 126] m = some r from hv]
  · simp only [show takeL [61, 126] m = none from hj 0 (by omega), show takeL [33, 126] m = none from hj 1 (by omega), show takeL [33, 61] m = some r from hv]
  · simp only [show takeL [61, 126] m = none from hj 0 (by omega), show takeL [33, 126] m = none from hj 1 (by omega), show takeL [33, 61] m = none from hj 2 (by omega), show takeL [61] m = some r from hv]
    rfl
theorem opM_none {m : Bs} (hj : ∀ j, j < 4 → takeL (sgn j).data.toList m = none) : opM m = match takeL [33] m with
    | some r => .bad r
    | none => .ok 0 m := by
  unfold opM
  simp only [show takeL [61, 126] m = none from hj 0 (by omega), show takeL [33, 126] m = none from hj 1 (by omega), show takeL [33, 61] m = none from hj 2 (by omega), show takeL [61] m = none from hj 3 (by omega)]

set_option maxRecDepth 100000 in
set_option maxHeartbeats 4000000 in
theorem op_any (b : Nat) (s : ByteArray) (l : Bs) (c2 c3 c4 c5 : Value) (w : World) (hR : Rd w b s l c2 c3 c4 c5) :
    Calls Tryz.prog 42 #[.pointer (some ⟨b, 0, none⟩)] w (Reads b s c2 c3 c4 c5 (opL l) (fun n => .int .i64 n) w) := by
  go_enter Tryz.func42, Tryz.ntmps42
  go_wp2_with fail
  refine (byte_any b s l c2 c3 c4 c5 _ hR).mono ?_
  rintro e w1 ⟨rfl, hR1, hF1⟩
  obtain ⟨m, hm⟩ : ∃ m, skipL l = m := ⟨_, rfl⟩
  rw [hm] at hR1
  have hbs : b < w1.heap.size := lt_of_obj hR1.cells
  go_wp2_with fail
  have H0 : OpRel b w1.heap.size s m c2 c3 c4 c5 w (.int .i64 0) (w1.alloc (.cells #[.string (sgn 0), .string (sgn 1), .string (sgn 2), .string (sgn 3)] 9)) :=
    ⟨0, rfl, by omega, ⟨Bl.heap_alloc_old hR1.cells _, hR1.suf, hR1.short⟩, ⟨_, heap_alloc _ _⟩, fun _ h => by omega, hF1.alloc _⟩
  go_loopw [9] (fun iv wr => OpRel b w1.heap.size s m c2 c3 c4 c5 w iv wr) (fun i _ => 4 - (intOf i).toNat)
  case atStart => exact H0
  case round =>
    clear H0
    obtain ⟨k, rfl, hk, hR2, ⟨T, hA⟩, hj, hF⟩ := hrel
    have HJ := Lib.hid hj
    clear hj
    have d0 := cell_of hA 0
    have d1 := cell_of hA 1
    have d2 := cell_of hA 2
    have d3 := cell_of hA 3
    simp only [List.getElem?_toArray, List.getElem?_cons_zero, List.getElem?_cons_succ] at d0 d1 d2 d3
    have hkc : k = 0 ∨ k = 1 ∨ k = 2 ∨ k = 3 ∨ k = 4 := by omega
    rcases hkc with rfl | rfl | rfl | rfl | rfl
    · go_wp2_with fail
      refine (take_any b s (sgn 0) m c2 c3 c4 c5 (by decide) _ hR2).mono ?_
      rintro e w2 ⟨rfl, hR3, hF3⟩
      obtain ⟨v, hv⟩ : ∃ v, takeL (sgn 0).data.toList m = v := ⟨_, rfl⟩
      rw [hv] at hR3 ⊢
      cases v with
      | none =>
        go_wp2_with fail
        exact ⟨OpRel.next hA HJ.out hF (by omega) hv hR3 hF3 (by omega) rfl, by simp [intOf]⟩
      | some r =>
        go_wp2_with fail
        go_ret
        exact Reads.ok ((hF.trans hF3).alloc _) (by rw [opL_of hm]; exact opM_of (by omega) HJ.out hv) rfl (hR3.fr ((Fr.refl [] _).alloc _) (by simp))
    · go_wp2_with fail
      refine (take_any b s (sgn 1) m c2 c3 c4 c5 (by decide) _ hR2).mono ?_
      rintro e w2 ⟨rfl, hR3, hF3⟩
      obtain ⟨v, hv⟩ : ∃ v, takeL (sgn 1).data.toList m = v := ⟨_, rfl⟩
      rw [hv] at hR3 ⊢
      cases v with
      | none =>
        go_wp2_with fail
        exact ⟨OpRel.next hA HJ.out hF (by omega) hv hR3 hF3 (by omega) rfl, by simp [intOf]⟩
      | some r =>
        go_wp2_with fail
        go_ret
        exact Reads.ok ((hF.trans hF3).alloc _) (by rw [opL_of hm]; exact opM_of (by omega) HJ.out hv) rfl (hR3.fr ((Fr.refl [] _).alloc _) (by simp))
    · go_wp2_with fail
      refine (take_any b s (sgn 2) m c2 c3 c4 c5 (by decide) _ hR2).mono ?_
      rintro e w2 ⟨rfl, hR3, hF3⟩
      obtain ⟨v, hv⟩ : ∃ v, takeL (sgn 2).data.toList m = v := ⟨_, rfl⟩
      rw [hv] at hR3 ⊢
      cases v with
      | none =>
        go_wp2_with fail
        exact ⟨OpRel.next hA HJ.out hF (by omega) hv hR3 hF3 (by omega) rfl, by simp [intOf]⟩
      | some r =>
        go_wp2_with fail
        go_ret
        exact Reads.ok ((hF.trans hF3).alloc _) (by rw [opL_of hm]; exact opM_of (by omega) HJ.out hv) rfl (hR3.fr ((Fr.refl [] _).alloc _) (by simp))
    · go_wp2_with fail
      refine (take_any b s (sgn 3) m c2 c3 c4 c5 (by decide) _ hR2).mono ?_
      rintro e w2 ⟨rfl, hR3, hF3⟩
      obtain ⟨v, hv⟩ : ∃ v, takeL (sgn 3).data.toList m = v := ⟨_, rfl⟩
      rw [hv] at hR3 ⊢
      cases v with
      | none =>
        go_wp2_with fail
        exact ⟨OpRel.next hA HJ.out hF (by omega) hv hR3 hF3 (by omega) rfl, by simp [intOf]⟩
      | some r =>
        go_wp2_with fail
        go_ret
        exact Reads.ok ((hF.trans hF3).alloc _) (by rw [opL_of hm]; exact opM_of (by omega) HJ.out hv) rfl (hR3.fr ((Fr.refl [] _).alloc _) (by simp))
    · go_wp2_with fail
      refine (take_any b s ⟨#[33]⟩ m c2 c3 c4 c5 (by decide) _ hR2).mono ?_
      rintro e w2 ⟨rfl, hR3, hF3⟩
      have hM := opM_none HJ.out
      obtain ⟨v, hv⟩ : ∃ v, takeL [33] m = v := ⟨_, rfl⟩
      rw [hv] at hM
      rw [show ByteArray.data ⟨#[33]⟩ = #[33] from rfl] at hR3 ⊢
      rw [show takeL (#[33] : Array UInt8).toList m = v from hv] at hR3 ⊢
      cases v with
      | none =>
        go_wp2_with fail
        go_ret
        exact Reads.ok (hF.trans hF3) (by rw [opL_of hm]; exact hM) rfl hR3
      | some r =>
        go_wp2_with fail
        refine (bad_any b s r c2 c3 c4 c5 _ hR3).mono ?_
        rintro e w3 ⟨rfl, rfl⟩
        go_wp2_with fail
        exact ⟨rfl, Reads.bad (hF.trans hF3) (r := r) (by rw [opL_of hm]; exact hM) rfl⟩
end Go.Proofs.YtaniaknphjnlkaaGreatDoor
