/- attr.Quote. -/
import Derived.Test.YtaniaknphjnlkaaGreatDoorLqRpl
namespace Go.Proofs.YtaniaknphjnlkaaGreatDoor
open Go.RowKit Go.Bl Go.Lq

theorem quoteP_bytes (s : ByteArray) : (ByteArray.mk #[34] ++ ⟨(s.data.toList.flatMap esc).toArray⟩ ++ ByteArray.mk #[34]) = ⟨(quoteP s.data.toList).toArray⟩ := by
  apply bs_ext
  simp [quoteP]
set_option maxRecDepth 100000 in
theorem quote_any (s : ByteArray) (hs : s.size ≤ 1024) (w : World) :
    Calls Tryz.prog 67 #[.string s] w fun e w' => e = .returned (.string ⟨(quoteP s.data.toList).toArray⟩) ∧ Fr [] w w' := by
  have hN := newReplacer_any w.heap.size (w.alloc (.cells sixStr.toArray 9)) (heap_alloc w _)
  go_enter Tryz.func67, Tryz.ntmps67
  go_wp2_with fail
  refine hN.mono ?_
  rintro e w1 ⟨R, rfl, hU, hF1, hR⟩
  rw [size_alloc'] at hR
  have hq := replace_any rpl_any R s hs w1 hU
  go_wp2_with fail
  refine hq.mono ?_
  rintro e w2 ⟨rfl, hF2⟩
  have hqb := quoteP_bytes s
  obtain ⟨Z, hZ⟩ : ∃ Z : ByteArray, ⟨(s.data.toList.flatMap esc).toArray⟩ = Z := ⟨_, rfl⟩
  have hZs : Z.size ≤ 3000 := by
    rw [← hZ]
    have h1 := flat_len s.data.toList
    have h2 : s.data.toList.countP isQ ≤ s.data.toList.length := List.countP_le_length
    have h3 := bytes_len s
    show (s.data.toList.flatMap esc).toArray.size ≤ 3000
    rw [List.size_toArray]
    omega
  have g1 : ¬ 9223372036854775807 < 1 + Z.size := by omega
  have g2 : ¬ 9223372036854775807 < 1 + Z.size + 1 := by omega
  rw [hZ] at hqb ⊢
  have HQ := Lib.hid hqb
  clear hqb hZ
  have HF : Hid (Fr [] w w2) := (((Fr.refl [] w).alloc _).trans hF1).new hF2 (by simp; omega)
  clear hF1 hF2 hU
  go_wp2_with fail
  go_ret
  refine ⟨?_, HF.out⟩
  rw [← HQ.out]
  rfl
end Go.Proofs.YtaniaknphjnlkaaGreatDoor
