/- The reference's Quote. -/
import Derived.Test.YtaniaknphjnlkaaGreatDoorMw16
namespace Go.Proofs.YtaniaknphjnlkaaGreatDoor
open Go.RowKit Go.Bl Go.Lq

def qk (s : ByteArray) (k : Nat) : Bs := 34 :: (s.data.toList.take k).flatMap esc
def QRR (s : ByteArray) (w : World) (iv pv : Value) (wr : World) : Prop :=
  ∃ k, iv = .int .i64 ((k : Nat) : Int) ∧ k ≤ s.size ∧ wr.ownsRow w.heap.size 5 1 pv (qk s k).length (Lib.byteCells (qk s k)) ∧ Fr [] w wr
theorem qk_len (s : ByteArray) (k : Nat) : (qk s k).length ≤ 1 + 2 * s.size := by
  unfold qk
  have h1 := flat_len (s.data.toList.take k)
  have h2 : (s.data.toList.take k).countP isQ ≤ (s.data.toList.take k).length := List.countP_le_length
  have h3 : (s.data.toList.take k).length ≤ s.size := by rw [List.length_take, bytes_len]; omega
  rw [List.length_cons, h1]
  omega
theorem qk_succ {s : ByteArray} {k : Nat} {c : UInt8} (hk : k < s.size) (hc : s[k] = c) : qk s (k + 1) = qk s k ++ esc c := by
  unfold qk
  rw [List.take_add_one, List.getElem?_eq_getElem (by rw [bytes_len]; exact hk)]
  have : s.data.toList[k]'(by rw [bytes_len]; exact hk) = c := by rw [← hc]; cases s; rfl
  rw [this]
  simp
theorem row_push {w wr w2 : World} {s : ByteArray} {k : Nat} {pv v2 : Value} (e : Bs) (hrow : wr.ownsRow w.heap.size 5 1 pv (qk s k).length (Lib.byteCells (qk s k))) (hq : qk s (k + 1) = qk s k ++ e)
    (hown : w2.ownsRow w.heap.size 5 1 v2 ((qk s k).length + e.length) (Lib.byteCells (qk s k) ++ Lib.byteCells e)) : w2.ownsRow w.heap.size 5 1 v2 (qk s (k + 1)).length (Lib.byteCells (qk s (k + 1))) := by
  rw [hq, Lib.byteCells_append, List.length_append]
  exact hown
set_option maxRecDepth 100000 in
set_option maxHeartbeats 800000 in
theorem quoteR_any (s : ByteArray) (hs : s.size ≤ 1024) (w : World) :
    Calls Tryz.prog 52 #[.string s] w fun e w' => e = .returned (.string ⟨(quoteP s.data.toList).toArray⟩) ∧ Fr [] w w' := by
  obtain ⟨i0, hi0, hz0, hz1, hz2⟩ := info_parts infoU8
  have hr0 : (w.alloc (.cells #[.int .u8 34] 5)).ownsRow w.heap.size 5 1 (.slice (some ⟨w.heap.size, 0, none⟩) 1 1) (qk s 0).length (Lib.byteCells (qk s 0)) :=
    ⟨rfl, .inr ⟨_, _, _, rfl, Nat.le_refl _, heap_alloc w _, Nat.le_refl _, by unfold maxLen; omega, rfl, rfl⟩⟩
  have HR0 := Lib.hid hr0
  clear hr0
  go_enter Tryz.func52, Tryz.ntmps52
  go_wp2_with fail
  go_loopw [4, 3] (fun iv pv wr => QRR s w iv pv wr) (fun iv _ _ => s.size - (intOf iv).toNat)
  case atStart => exact ⟨0, rfl, Nat.zero_le _, HR0.out, (Fr.refl _ _).alloc _⟩
  case round =>
    obtain ⟨k, rfl, hk, hrow, hF⟩ := hrel
    have hql := qk_len s k
    obtain ⟨N, hN⟩ : ∃ N, (qk s k).length = N := ⟨_, rfl⟩
    obtain ⟨L, hL⟩ : ∃ L, Lib.byteCells (qk s k) = L := ⟨_, rfl⟩
    rw [hN] at hql
    have hBw := hF.size
    by_cases hk2 : k < s.size
    · have g3 : (k : Int) < (s.size : Int) := by omega
      have g4 : (0 : Int) ≤ (k : Int) ∧ (k : Int) < (s.size : Int) := by omega
      obtain ⟨d, hd2⟩ : ∃ d, s[k] = d := ⟨_, rfl⟩
      have hqs := qk_succ hk2 hd2
      have hkk : k + 1 ≤ 100000 := by omega
      have hwk : True → wrap64 ((k : Int) + 1) = (k : Int) + 1 := fun _ => wrap_sum (x := k) (c := 1) hkk
      have b1 : ((d.toNat : Int) == 34) = decide (d = 34) := beq_u8 d 34 (by omega)
      have b2 : ((d.toNat : Int) == 92) = decide (d = 92) := beq_u8 d 92 (by omega)
      have b3 : ((d.toNat : Int) == 10) = decide (d = 10) := beq_u8 d 10 (by omega)
      have HRA := Lib.hid (And.intro hrow (And.intro hqs (And.intro hF (And.intro hN hL))))
      rw [hN, hL] at hrow
      have HRB := Lib.hid hrow
      clear hrow hqs hF hN hL
      by_cases hq : d = 34 ∨ d = 92
      · have hx : esc d = [92, d] := by rcases hq with rfl | rfl <;> rfl
        have HX := Lib.hid hx
        clear hx
        obtain ⟨z1, hz1'⟩ : ∃ z, decide (d = 34) = z := ⟨_, rfl⟩
        obtain ⟨z2, hz2'⟩ : ∃ z, decide (d = 92) = z := ⟨_, rfl⟩
        rw [hz1'] at b1
        rw [hz2'] at b2
        have hor : z1 = false → z2 = true := by
          intro h
          rw [← hz1'] at h
          rw [← hz2']
          rcases hq with h1 | h1
          · simp [h1] at h
          · simp [h1]
        have HOR := Lib.hid hor
        clear hor hq hz1' hz2' b3
        cases z1 with
        | true =>
          go_wp2_with (at_builtin; refine wpList_append_lies _ rfl (.tmp 24) (.tmp 28) 80 rfl w.heap.size 5 i0 (.int .u8 0) 1 1 Tryz.underlying80 hi0 hz0 hz1 hz2 rfl (by omega) u3 N L (by simp [Act.eval]) (HRB.out.alloc _) ⟨wr.heap.size, 0, none⟩ 2 2 [.int .u8 92, .int .u8 d.toNat] (by simp [Act.eval]) rfl (World.news_of_block (heap_alloc wr _)) (by simp [Value.oneCell']) (by omega) (by unfold maxLen; omega) (by omega) (by simp; omega) (wr.heap.size + 1) (by simp) ?_; intro gg cap' w2 hown2 hgrow hat hlt)
          obtain ⟨hrow, hqs, hF, hN, hL⟩ := HRA.out
          have hf2 : Fr [] w w2 := (hF.alloc _).new (fr_grown hgrow) (fun i hi => (row_old hrow (Option.mem_toList.1 hi)).1)
          subst hN hL
          exact ⟨⟨k + 1, rfl, hk2, row_push ([92, d]) hrow (by rw [hqs, HX.out]) hown2, hf2⟩, by simp [intOf]; omega⟩
        | false =>
          have hz := HOR.out rfl
          subst hz
          go_wp2_with (at_builtin; refine wpList_append_lies _ rfl (.tmp 24) (.tmp 28) 80 rfl w.heap.size 5 i0 (.int .u8 0) 1 1 Tryz.underlying80 hi0 hz0 hz1 hz2 rfl (by omega) u3 N L (by simp [Act.eval]) (HRB.out.alloc _) ⟨wr.heap.size, 0, none⟩ 2 2 [.int .u8 92, .int .u8 d.toNat] (by simp [Act.eval]) rfl (World.news_of_block (heap_alloc wr _)) (by simp [Value.oneCell']) (by omega) (by unfold maxLen; omega) (by omega) (by simp; omega) (wr.heap.size + 1) (by simp) ?_; intro gg cap' w2 hown2 hgrow hat hlt)
          obtain ⟨hrow, hqs, hF, hN, hL⟩ := HRA.out
          have hf2 : Fr [] w w2 := (hF.alloc _).new (fr_grown hgrow) (fun i hi => (row_old hrow (Option.mem_toList.1 hi)).1)
          subst hN hL
          exact ⟨⟨k + 1, rfl, hk2, row_push ([92, d]) hrow (by rw [hqs, HX.out]) hown2, hf2⟩, by simp [intOf]; omega⟩
      · have q1 : ¬ d = 34 := fun h => hq (.inl h)
        have q2 : ¬ d = 92 := fun h => hq (.inr h)
        rw [decide_eq_false q1] at b1
        rw [decide_eq_false q2] at b2
        by_cases h3 : d = 10
        · rw [decide_eq_true h3] at b3
          have hx : esc d = [92, 110] := by rw [h3]; rfl
          have HX := Lib.hid hx
          clear hx h3 hq q1 q2
          go_wp2_with (at_builtin; refine wpList_append_lies _ rfl (.tmp 32) (.tmp 33) 80 rfl w.heap.size 5 i0 (.int .u8 0) 1 1 Tryz.underlying80 hi0 hz0 hz1 hz2 rfl (by omega) u3 N L (by simp [Act.eval]) (HRB.out.alloc _) ⟨wr.heap.size, 0, none⟩ 2 2 [.int .u8 92, .int .u8 110] (by simp [Act.eval]) rfl (World.news_of_block (heap_alloc wr _)) (by simp [Value.oneCell']) (by omega) (by unfold maxLen; omega) (by omega) (by simp; omega) (wr.heap.size + 1) (by simp) ?_; intro gg cap' w2 hown2 hgrow hat hlt)
          obtain ⟨hrow, hqs, hF, hN, hL⟩ := HRA.out
          have hf2 : Fr [] w w2 := (hF.alloc _).new (fr_grown hgrow) (fun i hi => (row_old hrow (Option.mem_toList.1 hi)).1)
          subst hN hL
          exact ⟨⟨k + 1, rfl, hk2, row_push ([92, 110]) hrow (by rw [hqs, HX.out]) hown2, hf2⟩, by simp [intOf]; omega⟩
        · rw [decide_eq_false h3] at b3
          have hx : esc d = [d] := by unfold esc; rw [if_neg q1, if_neg q2, if_neg h3]
          have HX := Lib.hid hx
          clear hx h3 hq q1 q2
          go_wp2_with (at_builtin; refine wpList_append_lies _ rfl (.tmp 15) (.tmp 19) 80 rfl w.heap.size 5 i0 (.int .u8 0) 1 1 Tryz.underlying80 hi0 hz0 hz1 hz2 rfl (by omega) u3 N L (by simp [Act.eval]) (HRB.out.alloc _) ⟨wr.heap.size, 0, none⟩ 1 1 [.int .u8 d.toNat] (by simp [Act.eval]) rfl (World.news_of_block (heap_alloc wr _)) (by simp [Value.oneCell']) (by omega) (by unfold maxLen; omega) (by omega) (by simp; omega) (wr.heap.size + 1) (by simp) ?_; intro gg cap' w2 hown2 hgrow hat hlt)
          obtain ⟨hrow, hqs, hF, hN, hL⟩ := HRA.out
          have hf2 : Fr [] w w2 := (hF.alloc _).new (fr_grown hgrow) (fun i hi => (row_old hrow (Option.mem_toList.1 hi)).1)
          subst hN hL
          exact ⟨⟨k + 1, rfl, hk2, row_push ([d]) hrow (by rw [hqs, HX.out]) hown2, hf2⟩, by simp [intOf]; omega⟩
    · obtain rfl : k = s.size := by omega
      have g3 : ¬ (s.size : Int) < (s.size : Int) := by omega
      have hfull : quoteP s.data.toList = qk s s.size ++ [34] := by
        unfold qk quoteP
        rw [List.take_of_length_le (by rw [bytes_len]; exact Nat.le_refl _)]
        rfl
      have HFU := Lib.hid (And.intro hfull (And.intro hF (And.intro hN hL)))
      have HRA := Lib.hid hrow
      rw [hN, hL] at hrow
      have HRB := Lib.hid hrow
      clear hrow hfull hF hN hL
      go_wp2_with (at_builtin; refine wpList_append_lies _ rfl (.tmp 35) (.tmp 36) 80 rfl w.heap.size 5 i0 (.int .u8 0) 1 1 Tryz.underlying80 hi0 hz0 hz1 hz2 rfl (by omega) u3 N L (by simp [Act.eval]) (HRB.out.alloc _) ⟨wr.heap.size, 0, none⟩ 1 1 [.int .u8 34] (by simp [Act.eval]) rfl (World.news_of_block (heap_alloc wr _)) (by simp [Value.oneCell']) (by omega) (by unfold maxLen; omega) (by omega) (by simp; omega) (wr.heap.size + 1) (by simp) ?_; intro gg cap' w2 hown2 hgrow hat hlt)
      have hqlen : (quoteP s.data.toList).length = N + 1 := by rw [HFU.out.1, List.length_append, HFU.out.2.2.1]; rfl
      have hcv := run_convert_bytes_back w2 80 9 5 ⟨gg, 0, none⟩ cap' (quoteP s.data.toList) Tryz.underlying80 Tryz.underlying5 Tryz.underlying9 (by
        intro j hj
        refine hown2.cells (g := gg) rfl j _ ?_
        rw [← HFU.out.2.2.2, show ([Value.int .u8 34] : List Value) = Lib.byteCells [34] from rfl, ← Lib.byteCells_append, ← HFU.out.1]
        unfold Lib.byteCells
        rw [List.getElem?_map, List.getElem?_eq_getElem hj]
        rfl)
      rw [hqlen] at hcv
      have hf2 : Fr [] w w2 := (HFU.out.2.1.alloc _).new (fr_grown hgrow) (fun i hi => (row_old HRA.out (Option.mem_toList.1 hi)).1)
      have HF2 := Lib.hid hf2
      clear hf2 hqlen hown2 hgrow hat hlt
      rw [hcv]
      go_wp2_with fail
      go_ret
      exact ⟨rfl, HF2.out⟩
end Go.Proofs.YtaniaknphjnlkaaGreatDoor
