/- The reference's SameMatch, Same. -/
import Derived.Test.YtaniaknphjnlkaaGreatDoorMf05
import Derived.Test.YtaniaknphjnlkaaGreatDoorLqRpl
import Derived.Test.YtaniaknphjnlkaaGreatDoorMf02
namespace Go.Proofs.YtaniaknphjnlkaaGreatDoor
open Go.RowKit Go.Bl Go.Lq

theorem wrap_big {c : Nat} (h : c ≤ 4000000000000000) : wrap64 (c : Int) = (c : Int) := by unfold wrap64; omega
def SMRel (w : World) (l1 l2 : List Mt) (iv : Value) (wr : World) : Prop :=
  ∃ k n, iv = .int .i64 ((k : Nat) : Int) ∧ k ≤ l1.length ∧ wr = w.drewN n ∧ l1.take k = l2.take k
theorem mt_neq (x y : Mt) (w : World) : (binOp .neq 56 (.agg #[.int .i64 x.op, .string ⟨x.key.toArray⟩, .string ⟨x.val.toArray⟩]) (.agg #[.int .i64 y.op, .string ⟨y.key.toArray⟩, .string ⟨y.val.toArray⟩])).run Tryz.prog w = .ok (.bool (!decide (x = y))) w := by
  rw [neq56]
  congr 3
  obtain ⟨a, b, c⟩ := x
  obtain ⟨d, e, f⟩ := y
  simp only [ByteArray.toList_eq]
  rw [Bool.eq_iff_iff]
  simp
set_option maxRecDepth 100000 in
set_option maxHeartbeats 400000 in
theorem sameMatch_any (l1 l2 : List Mt) (v1 v2 : Value) (w : World) (h1 : Mts w v1 l1) (h2 : Mts w v2 l2) (hs : l1.length ≤ 2000000) :
    Calls Tryz.prog 27 #[v1, v2] w fun e w' => e = .returned (.bool (decide (l1 = l2))) ∧ Fr [] w w' := by
  obtain ⟨A1, p1, rfl, hl1, hx1⟩ := h1
  obtain ⟨A2, p2, rfl, hl2, hx2⟩ := h2
  have HX1 := Lib.hid hx1
  have HX2 := Lib.hid hx2
  clear hx1 hx2
  by_cases hne : l1.length = l2.length
  · obtain ⟨ans, hans⟩ : ∃ ans, decide (l1 = l2) = ans := ⟨_, rfl⟩
    rw [hans]
    have HANS := Lib.hid hans
    have q1 : ((l1.length : Int) == (l2.length : Int)) = true := by rw [hne]; simp
    have HNE := Lib.hid hne
    clear hans
    rw [← hne]
    clear hne q1
    go_enter Tryz.func27, Tryz.ntmps27
    go_wp2_with fail
    go_loopw [5] (fun iv wr => SMRel w l1 l2 iv wr) (fun iv _ => l1.length - (intOf iv).toNat)
    case atStart => exact ⟨0, 0, rfl, by omega, rfl, rfl⟩
    case round =>
      obtain ⟨k, n, rfl, hk, rfl, htk⟩ := hrel
      by_cases hk2 : k < l1.length
      · have hk3 : k < l2.length := by rw [← HNE.out]; exact hk2
        obtain ⟨a1, rfl, c0, c1, c2⟩ := HX1.out k hk2
        obtain ⟨a2, rfl, d0, d1, d2⟩ := HX2.out k hk3
        have hsp := World.cell?_spot c0
        have hsp2 := World.cell?_spot d0
        obtain ⟨x, hx⟩ : ∃ x, l1[k] = x := ⟨_, rfl⟩
        obtain ⟨y, hy⟩ : ∃ y, l2[k] = y := ⟨_, rfl⟩
        rw [hx] at c0 c1 c2
        rw [hy] at d0 d1 d2
        have g1 : (k : Int) < (l1.length : Int) := by omega
        have g2 : (0 : Int) ≤ (k : Int) ∧ (k : Int) < (l1.length : Int) := by omega
        have hk1 : k + 1 ≤ 2000001 := by omega
        have HT := Lib.hid (And.intro htk (And.intro hx hy))
        clear htk hx hy
        have hnq := mt_neq x y
        obtain ⟨bb, hbb⟩ : ∃ bb, decide (x = y) = bb := ⟨_, rfl⟩
        rw [hbb] at hnq
        have HBB := Lib.hid hbb
        clear hbb
        have hwk : True → wrap64 ((k : Int) + 1) = (k : Int) + 1 := fun _ => wrap_big (c := k + 1) (by omega)
        go_wp2_with fail
        go_quiet (fail)
        cases bb with
        | false =>
          go_wp2_with fail
          go_ret
          refine ⟨?_, (((Fr.refl _ _).drewN _).drewN _)⟩
          have hxy : x ≠ y := of_decide_eq_false HBB.out
          rw [← HANS.out, decide_eq_false (fun e => by subst e; exact hxy (by rw [← HT.out.2.1, ← HT.out.2.2]))]
          rfl
        | true =>
          have hxy : x = y := of_decide_eq_true HBB.out
          have HXY := Lib.hid hxy
          clear hxy
          go_wp2_with fail
          refine ⟨⟨k + 1, _, rfl, hk2, rfl, ?_⟩, by simp [intOf]; omega⟩
          rw [List.take_add_one, List.take_add_one, List.getElem?_eq_getElem hk2, List.getElem?_eq_getElem hk3, HT.out.1, HT.out.2.1, HT.out.2.2, HXY.out]
      · obtain rfl : k = l1.length := by omega
        have g1 : ¬ (l1.length : Int) < (l1.length : Int) := by omega
        rw [List.take_of_length_le (Nat.le_refl _), HNE.out, List.take_of_length_le (Nat.le_refl _)] at htk
        have HT := Lib.hid htk
        clear htk
        go_wp2_with fail
        go_ret
        refine ⟨?_, (Fr.refl _ _).drewN _⟩
        rw [← HANS.out, decide_eq_true HT.out]
        rfl
  · rw [decide_eq_false (fun e => hne (by rw [e]))]
    have q1 : ((l1.length : Int) == (l2.length : Int)) = false := beq_eq_false_iff_ne.2 (by omega)
    go_enter Tryz.func27, Tryz.ntmps27
    go_wp2
    go_ret
    exact ⟨rfl, Fr.refl _ _⟩
end Go.Proofs.YtaniaknphjnlkaaGreatDoor
namespace Go.Proofs.YtaniaknphjnlkaaGreatDoor
open Go.RowKit Go.Bl Go.Lq

theorem quoteP_bytes (s : ByteArray) : (ByteArray.mk #[34] ++ ⟨(s.data.toList.flatMap esc).toArray⟩ ++ ByteArray.mk #[34]) = ⟨(quoteP s.data.toList).toArray⟩ := by
  apply bs_ext
  simp [quoteP]
set_option maxRecDepth 100000 in
theorem quote_any (s : ByteArray) (hs : s.size ≤ 1024) (w : World) :
    Calls Tryz.prog 67 #[.string s] w fun e w' => e = .returned (.string ⟨(quoteP s.data.toList).toArray⟩) ∧ Fr [] w w' := by
  have hN := newReplacer_any w.heap.size (w.alloc (.cells sixStr.toArray 9)) (heap_alloc w _)
  go_enter Tryz.func67, Tryz.ntmps67
  go_wp2_with fail
  refine hN.mono ?_
  rintro e w1 ⟨R, rfl, hU, hF1, hR⟩
  rw [size_alloc'] at hR
  have hq := replace_any rpl_any R s hs w1 hU
  go_wp2_with fail
  refine hq.mono ?_
  rintro e w2 ⟨rfl, hF2⟩
  have hqb := quoteP_bytes s
  obtain ⟨Z, hZ⟩ : ∃ Z : ByteArray, ⟨(s.data.toList.flatMap esc).toArray⟩ = Z := ⟨_, rfl⟩
  have hZs : Z.size ≤ 3000 := by
    rw [← hZ]
    have h1 := flat_len s.data.toList
    have h2 : s.data.toList.countP isQ ≤ s.data.toList.length := List.countP_le_length
    have h3 := bytes_len s
    show (s.data.toList.flatMap esc).toArray.size ≤ 3000
    rw [List.size_toArray]
    omega
  have g1 : ¬ 9223372036854775807 < 1 + Z.size := by omega
  have g2 : ¬ 9223372036854775807 < 1 + Z.size + 1 := by omega
  rw [hZ] at hqb ⊢
  have HQ := Lib.hid hqb
  clear hqb hZ
  have HF : Hid (Fr [] w w2) := (((Fr.refl [] w).alloc _).trans hF1).new hF2 (by simp; omega)
  clear hF1 hF2 hU
  go_wp2_with fail
  go_ret
  refine ⟨?_, HF.out⟩
  rw [← HQ.out]
  rfl
end Go.Proofs.YtaniaknphjnlkaaGreatDoor
