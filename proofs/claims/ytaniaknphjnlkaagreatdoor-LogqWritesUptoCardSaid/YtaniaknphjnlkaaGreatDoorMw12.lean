/- The reference's SameMatch, Same. -/
import Derived.Test.YtaniaknphjnlkaaGreatDoorMw05
import Derived.Test.YtaniaknphjnlkaaGreatDoorLqRpl
import Derived.Test.YtaniaknphjnlkaaGreatDoorMw02
namespace Go.Proofs.YtaniaknphjnlkaaGreatDoor
open Go.RowKit Go.Bl Go.Lq

theorem wrap_big {c : Nat} (h : c ≤ 4000000000000000) : wrap64 (c : Int) = (c : Int) := by unfold wrap64; omega
def SMRel (w : World) (l1 l2 : List Mt) (iv : Value) (wr : World) : Prop :=
  ∃ k n, iv = .int .i64 ((k : Nat) : Int) ∧ k ≤ l1.length ∧ wr = w.drewN n ∧ l1.take k = l2.take k
theorem mt_neq (x y : Mt) (w : World) : (binOp .neq 56 (.agg #[.int .i64 x.op, .string ⟨x.key.toArray⟩, .string ⟨x.val.toArray⟩]) (.agg #[.int .i64 y.op, .string ⟨y.key.toArray⟩, .string ⟨y.val.toArray⟩])).run Tryz.prog w = .ok (.bool (!decide (x = y))) w := by
  rw [neq56]
  congr 3
  obtain ⟨a, b, c⟩ := x
  obtain ⟨d, e, f⟩ := y
  simp only [ByteArray.toList_eq]
  rw [Bool.eq_iff_iff]
  simp
set_option maxRecDepth 100000 in
set_option maxHeartbeats 400000 in
theorem sameMatch_any (l1 l2 : List Mt) (v1 v2 : Value) (w : World) (h1 : Mts w v1 l1) (h2 : Mts w v2 l2) (hs : l1.length ≤ 2000000) :
    Calls Tryz.prog 27 #[v1, v2] w fun e w' => e = .returned (.bool (decide (l1 = l2))) ∧ Fr [] w w' := by
  obtain ⟨A1, p1, rfl, hl1, hx1⟩ := h1
  obtain ⟨A2, p2, rfl, hl2, hx2⟩ := h2
  have HX1 := Lib.hid hx1
  have HX2 := Lib.hid hx2
  clear hx1 hx2
  by_cases hne : l1.length = l2.length
  · obtain ⟨ans, hans⟩ : ∃ ans, decide (l1 = l2) = ans := ⟨_, rfl⟩
    rw [hans]
    have HANS := Lib.hid hans
    have q1 : ((l1.length : Int) == (l2.length : Int)) = true := by rw [hne]; simp
    have HNE := Lib.hid hne
    clear hans
    rw [← hne]
    clear hne q1
    go_enter Tryz.func27, Tryz.ntmps27
    go_wp2_with fail
    go_loopw [5] (fun iv wr => SMRel w l1 l2 iv wr) (fun iv _ => l1.length - (intOf iv).toNat)
    case atStart => exact ⟨0, 0, rfl, by omega, rfl, rfl⟩
    case round =>
      obtain ⟨k, n, rfl, hk, rfl, htk⟩ := hrel
      by_cases hk2 : k < l1.length
      · have hk3 : k < l2.length := by rw [← HNE.out]; exact hk2
        obtain ⟨a1, rfl, c0, c1, c2⟩ := HX1.out k hk2
        obtain ⟨a2, rfl, d0, d1, d2⟩ := HX2.out k hk3
        have hsp := World.cell?_spot c0
        have hsp2 := World.cell?_spot d0
        obtain ⟨x, hx⟩ : ∃ x, l1[k] = x := ⟨_, rfl⟩
        obtain ⟨y, hy⟩ : ∃ y, l2[k] = y := ⟨_, rfl⟩
        rw [hx] at c0 c1 c2
        rw [hy] at d0 d1 d2
        have g1 : (k : Int) < (l1.length : Int) := by omega
        have g2 : (0 : Int) ≤ (k : Int) ∧ (k : Int) < (l1.length : Int) := by omega
        have hk1 : k + 1 ≤ 2000001 := by omega
        have HT := Lib.hid (And.intro htk (And.intro hx hy))
        clear htk hx hy
        have hnq := mt_neq x y
        obtain ⟨bb, hbb⟩ : ∃ bb, decide (x = y) = bb := ⟨_, rfl⟩
        rw [hbb] at hnq
        have HBB := Lib.hid hbb
        clear hbb
        have hwk : True → wrap64 ((k : Int) + 1) = (k : Int) + 1 := fun _ => wrap_big (c := k + 1) (by omega)
        go_wp2_with fail
        go_quiet (fail)
        cases bb with
        | false =>
          go_wp2_with fail
          go_ret
          refine ⟨?_, (((Fr.refl _ _).drewN _).drewN _)⟩
          have hxy : x ≠ y := of_decide_eq_false HBB.out
          rw [← HANS.out, decide_eq_false (fun e => by subst e; exact hxy (by rw [← HT.out.2.1, ← HT.out.2.2]))]
          rfl
        | true =>
          have hxy : x = y := of_decide_eq_true HBB.out
          have HXY := Lib.hid hxy
          clear hxy
          go_wp2_with fail
          refine ⟨⟨k + 1, _, rfl, hk2, rfl, ?_⟩, by simp [intOf]; omega⟩
          rw [List.take_add_one, List.take_add_one, List.getElem?_eq_getElem hk2, List.getElem?_eq_getElem hk3, HT.out.1, HT.out.2.1, HT.out.2.2, HXY.out]
      · obtain rfl : k = l1.length := by omega
        have g1 : ¬ (l1.length : Int) < (l1.length : Int) := by omega
        rw [List.take_of_length_le (Nat.le_refl _), HNE.out, List.take_of_length_le (Nat.le_refl _)] at htk
        have HT := Lib.hid htk
        clear htk
        go_wp2_with fail
        go_ret
        refine ⟨?_, (Fr.refl _ _).drewN _⟩
        rw [← HANS.out, decide_eq_true HT.out]
        rfl
  · rw [decide_eq_false (fun e => hne (by rw [e]))]
    have q1 : ((l1.length : Int) == (l2.length : Int)) = false := beq_eq_false_iff_ne.2 (by omega)
    go_enter Tryz.func27, Tryz.ntmps27
    go_wp2
    go_ret
    exact ⟨rfl, Fr.refl _ _⟩
end Go.Proofs.YtaniaknphjnlkaaGreatDoor
namespace Go.Proofs.YtaniaknphjnlkaaGreatDoor
open Go.RowKit Go.Bl Go.Lq

def sameQ (a b : Qy) : Bool := decide (a.mat = b.mat) && (decide (a.level = b.level) && (decide (a.tests = b.tests) && decide (a.limit = b.limit)))
theorem sameQ_refl (a : Qy) : sameQ a a = true := by simp [sameQ]
set_option maxRecDepth 100000 in
set_option maxHeartbeats 800000 in
theorem sameR_any (p q : Qy) (v1 v2 : Value) (w : World) (h1 : QyV w v1 p) (h2 : QyV w v2 q) (hl1 : p.mat.length ≤ 2000000) (hl2 : p.tests.length ≤ 2000000) :
    Calls Tryz.prog 7 #[v1, v2] w fun e w' => e = .returned (.bool (sameQ p q)) ∧ Fr [] w w' := by
  obtain ⟨a2, a4, rfl, m2, m4⟩ := h1
  obtain ⟨b2, b4, rfl, n2, n4⟩ := h2
  obtain ⟨WA, hWA⟩ : ∃ WA, (w.alloc (.cells #[a2, .int .i64 p.level, a4, .int .i64 p.limit] 24)).alloc (.cells #[b2, .int .i64 q.level, b4, .int .i64 q.limit] 24) = WA := ⟨_, rfl⟩
  have hFA : Fr [] w WA := by rw [← hWA]; exact ((Fr.refl _ _).alloc _).alloc _
  have hB0 : WA.heap[w.heap.size]? = some (.cells #[a2, .int .i64 p.level, a4, .int .i64 p.limit] 24 (0, 0)) := by rw [← hWA]; exact Go.Bl.heap_alloc_old (heap_alloc w _) _
  have hB1 : WA.heap[w.heap.size + 1]? = some (.cells #[b2, .int .i64 q.level, b4, .int .i64 q.limit] 24 (0, 0)) := by
    rw [← hWA]
    have := heap_alloc (w.alloc (.cells #[a2, .int .i64 p.level, a4, .int .i64 p.limit] 24)) (.cells #[b2, .int .i64 q.level, b4, .int .i64 q.limit] 24)
    rw [size_alloc'] at this
    exact this
  have x0 := cell_of hB0 0
  have y0 := cell_of hB1 0
  simp only [List.getElem?_toArray, List.getElem?_cons_zero] at x0 y0
  have hs1 := sameMatch_any p.mat q.mat a2 b2 WA (m2.fr hFA) (n2.fr hFA) hl1
  unfold sameQ
  obtain ⟨c1, hc1⟩ : ∃ c1, decide (p.mat = q.mat) = c1 := ⟨_, rfl⟩
  obtain ⟨c3, hc3⟩ : ∃ c3, decide (p.tests = q.tests) = c3 := ⟨_, rfl⟩
  obtain ⟨c2, hc2⟩ : ∃ c2, decide (p.level = q.level) = c2 := ⟨_, rfl⟩
  obtain ⟨c4, hc4⟩ : ∃ c4, decide (p.limit = q.limit) = c4 := ⟨_, rfl⟩
  have e2 : (p.level == q.level) = c2 := by rw [← hc2]; rfl
  have e4 : (p.limit == q.limit) = c4 := by rw [← hc4]; rfl
  rw [hc1] at hs1
  rw [hc1, hc2, hc3, hc4]
  have HH := Lib.hid (And.intro hFA (And.intro hB0 (And.intro hB1 (And.intro m4 (And.intro n4 hc3)))))
  clear hFA hB0 hB1 m2 m4 n2 n4 hc1 hc2 hc3 hc4
  go_enter Tryz.func7, Tryz.ntmps7
  go_wp2_with fail
  (try rw [hWA])
  go_wp2_with fail
  refine hs1.mono ?_
  rintro e w1 ⟨rfl, hF1⟩
  have hb0 := hF1.obj HH.out.2.1 (by simp)
  have hb1 := hF1.obj HH.out.2.2.1 (by simp)
  have k1 := cell_of hb0 1
  have k2 := cell_of hb0 2
  have k3 := cell_of hb0 3
  have l1 := cell_of hb1 1
  have l2 := cell_of hb1 2
  have l3 := cell_of hb1 3
  simp only [List.getElem?_toArray, List.getElem?_cons_zero, List.getElem?_cons_succ] at k1 k2 k3 l1 l2 l3
  have hs2 := sameMatch_any p.tests q.tests a4 b4 w1 ((HH.out.2.2.2.1.fr HH.out.1).fr hF1) ((HH.out.2.2.2.2.1.fr HH.out.1).fr hF1) hl2
  rw [HH.out.2.2.2.2.2] at hs2
  have HF1 := Lib.hid (And.intro (HH.out.1.trans hF1) (And.intro hb0 hb1))
  clear hF1 hb0 hb1 hs1 hWA
  cases c1 with
  | false =>
    go_wp2
    go_ret
    exact ⟨rfl, HF1.out.1⟩
  | true =>
    cases c2 with
    | false =>
      go_wp2
      go_ret
      exact ⟨rfl, HF1.out.1⟩
    | true =>
      go_wp2_with fail
      refine hs2.mono ?_
      rintro e w2 ⟨rfl, hF2⟩
      have hb0 := hF2.obj HF1.out.2.1 (by simp)
      have hb1 := hF2.obj HF1.out.2.2 (by simp)
      have u3 := cell_of hb0 3
      have v3 := cell_of hb1 3
      simp only [List.getElem?_toArray, List.getElem?_cons_zero, List.getElem?_cons_succ] at u3 v3
      have HF2 := Lib.hid (HF1.out.1.trans hF2)
      clear hF2 hb0 hb1 k1 k2 k3 l1 l2 l3
      cases c3 with
      | false =>
        go_wp2
        go_ret
        exact ⟨rfl, HF2.out⟩
      | true =>
        go_wp2
        go_ret
        exact ⟨by simp_all, HF2.out⟩
end Go.Proofs.YtaniaknphjnlkaaGreatDoor
namespace Go.Proofs.YtaniaknphjnlkaaGreatDoor
open Go.RowKit Go.Bl Go.Lq

theorem quoteP_bytes (s : ByteArray) : (ByteArray.mk #[34] ++ ⟨(s.data.toList.flatMap esc).toArray⟩ ++ ByteArray.mk #[34]) = ⟨(quoteP s.data.toList).toArray⟩ := by
  apply bs_ext
  simp [quoteP]
set_option maxRecDepth 100000 in
theorem quote_any (s : ByteArray) (hs : s.size ≤ 1024) (w : World) :
    Calls Tryz.prog 67 #[.string s] w fun e w' => e = .returned (.string ⟨(quoteP s.data.toList).toArray⟩) ∧ Fr [] w w' := by
  have hN := newReplacer_any w.heap.size (w.alloc (.cells sixStr.toArray 9)) (heap_alloc w _)
  go_enter Tryz.func67, Tryz.ntmps67
  go_wp2_with fail
  refine hN.mono ?_
  rintro e w1 ⟨R, rfl, hU, hF1, hR⟩
  rw [size_alloc'] at hR
  have hq := replace_any rpl_any R s hs w1 hU
  go_wp2_with fail
  refine hq.mono ?_
  rintro e w2 ⟨rfl, hF2⟩
  have hqb := quoteP_bytes s
  obtain ⟨Z, hZ⟩ : ∃ Z : ByteArray, ⟨(s.data.toList.flatMap esc).toArray⟩ = Z := ⟨_, rfl⟩
  have hZs : Z.size ≤ 3000 := by
    rw [← hZ]
    have h1 := flat_len s.data.toList
    have h2 : s.data.toList.countP isQ ≤ s.data.toList.length := List.countP_le_length
    have h3 := bytes_len s
    show (s.data.toList.flatMap esc).toArray.size ≤ 3000
    rw [List.size_toArray]
    omega
  have g1 : ¬ 9223372036854775807 < 1 + Z.size := by omega
  have g2 : ¬ 9223372036854775807 < 1 + Z.size + 1 := by omega
  rw [hZ] at hqb ⊢
  have HQ := Lib.hid hqb
  clear hqb hZ
  have HF : Hid (Fr [] w w2) := (((Fr.refl [] w).alloc _).trans hF1).new hF2 (by simp; omega)
  clear hF1 hF2 hU
  go_wp2_with fail
  go_ret
  refine ⟨?_, HF.out⟩
  rw [← HQ.out]
  rfl
end Go.Proofs.YtaniaknphjnlkaaGreatDoor
