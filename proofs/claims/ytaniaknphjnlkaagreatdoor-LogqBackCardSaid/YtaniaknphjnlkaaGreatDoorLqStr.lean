/- Words of strings: what HasPrefix, TrimPrefix say. -/
import Derived.Test.YtaniaknphjnlkaaGreatDoorLqRd
namespace Go.Proofs.YtaniaknphjnlkaaGreatDoor
open Go.RowKit Go.Bl Go.Lq

theorem bytes_len (s : ByteArray) : s.data.toList.length = s.size := by cases s; rfl
theorem drop_suf {l m : Bs} (h : l <:+ m) : m.drop (m.length - l.length) = l := by
  obtain ⟨t, rfl⟩ := h
  simp
theorem extract_list (s : ByteArray) (a b : Nat) : (s.extract a b).data.toList = (s.data.toList.drop a).take (b - a) := by
  simp [ByteArray.data_extract, List.extract_eq_take_drop]
theorem bs_ext {a b : ByteArray} (h : a.data.toList = b.data.toList) : a = b := by
  cases a; cases b; congr; exact Array.toList_inj.1 h
theorem beq_toList (a b : ByteArray) : (a.toList == b.toList) = decide (a.data.toList = b.data.toList) := by
  rw [ByteArray.toList_eq, ByteArray.toList_eq]
  rw [Bool.eq_iff_iff]
  simp only [beq_iff_eq, decide_eq_true_eq]
theorem prefix_take (x t : Bs) : t.isPrefixOf x = (decide (t.length ≤ x.length) && decide (x.take t.length = t)) := by
  by_cases h : t <+: x
  · rw [List.isPrefixOf_iff_prefix.2 h]
    have h1 := h.length_le
    have h2 : x.take t.length = t := (List.prefix_iff_eq_take.1 h).symm
    simp [h1, h2]
  · have h0 : t.isPrefixOf x = false := by
      rw [← Bool.not_eq_true, List.isPrefixOf_iff_prefix]
      exact h
    rw [h0]
    by_cases h1 : x.take t.length = t
    · exact absurd (List.prefix_iff_eq_take.2 h1.symm) h
    · simp [h1]
set_option maxRecDepth 100000 in
theorem hasPrefix_any (x t : ByteArray) (w : World) :
    Calls Tryz.prog 45 #[.string x, .string t] w fun e w' => e = .returned (.bool (t.data.toList.isPrefixOf x.data.toList)) ∧ w' = w := by
  go_enter Tryz.func45, Tryz.ntmps45
  go_wp2_with (go_at_call 65; go_in)
  · rename_i h
    go_ret
    refine ⟨ret_val (congrArg Value.bool ?_), rfl⟩
    show ((x.extract 0 t.size).toList == t.toList) = _
    rw [beq_toList, prefix_take, extract_list, bytes_len, bytes_len]
    simp [h]
  · rename_i h
    go_ret
    refine ⟨ret_val (congrArg Value.bool ?_), rfl⟩
    show false = _
    rw [prefix_take, bytes_len, bytes_len]
    simp [h]

theorem Rd.left {w : World} {b : Nat} {s : ByteArray} {l : Bs} {c2 c3 c4 c5 : Value} (h : Rd w b s l c2 c3 c4 c5) :
    l.length ≤ s.size ∧ (s.extract (s.size - l.length) s.size).data.toList = l := by
  have h1 := h.suf.length_le
  rw [bytes_len] at h1
  refine ⟨h1, ?_⟩
  rw [extract_list]
  have := drop_suf h.suf
  rw [bytes_len] at this
  rw [this]
  exact List.take_of_length_le (by omega)

set_option maxRecDepth 100000 in
theorem take_any (b : Nat) (s t : ByteArray) (l : Bs) (c2 c3 c4 c5 : Value) (ht : t.size ≤ 1024) (w : World) (hR : Rd w b s l c2 c3 c4 c5) :
    Calls Tryz.prog 25 #[.pointer (some ⟨b, 0, none⟩), .string t] w fun e w' =>
      e = .returned (.bool (takeL t.data.toList l).isSome) ∧ Rd w' b s ((takeL t.data.toList l).getD l) c2 c3 c4 c5 ∧ Fr [b] w w' := by
  have k0 := cell_of hR.cells 0
  have k1 := cell_of hR.cells 1
  have z1 := frozen_of hR.cells 1
  simp only [List.getElem?_toArray, List.getElem?_cons_zero, List.getElem?_cons_succ] at k0 k1
  obtain ⟨hl, hx⟩ := hR.left
  have hsh := hR.short
  obtain ⟨v, hv⟩ : ∃ v, t.data.toList.isPrefixOf l = v := ⟨_, rfl⟩
  have hcall : ∀ w, Calls Tryz.prog 45 #[.string (s.extract (s.size - l.length) s.size), .string t] w fun e w' => e = .returned (.bool v) ∧ w' = w := by
    intro w
    have := hasPrefix_any (s.extract (s.size - l.length) s.size) t w
    rw [hx, hv] at this
    exact this
  have htl : takeL t.data.toList l = if v then some (l.drop t.size) else none := by
    unfold takeL
    rw [hv, bytes_len]
  rw [htl]
  go_enter Tryz.func25, Tryz.ntmps25
  cases v
  · go_wp2_with fail
    go_quiet ((go_at_call 45; exact Calls.quiet_of_same (hcall _)))
    go_wp2_with fail
    go_ret
    exact ⟨rfl, hR.drewN _, (Fr.refl _ _).drewN _⟩
  · have hle : t.size ≤ l.length := by
      have := (List.isPrefixOf_iff_prefix.1 hv).length_le
      rwa [bytes_len] at this
    go_wp2_with fail
    go_quiet ((go_at_call 45; exact Calls.quiet_of_same (hcall _)))
    go_wp2_with fail
    go_ret
    refine ⟨rfl, (hR.drewN nq).set (List.drop_suffix _ _) ?_, ((Fr.refl _ _).drewN _).setCell1 1 _⟩
    simp
    omega
end Go.Proofs.YtaniaknphjnlkaaGreatDoor
