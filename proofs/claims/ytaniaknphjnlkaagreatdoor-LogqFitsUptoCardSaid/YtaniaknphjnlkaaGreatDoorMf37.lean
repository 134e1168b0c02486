/- Records; attr.Same of the reference. -/
import Derived.Test.YtaniaknphjnlkaaGreatDoorMf36
import Derived.Laws.StructEq
import Derived.Test.YtaniaknphjnlkaaGreatDoorLqKnownP
namespace Go.Proofs.YtaniaknphjnlkaaGreatDoor
open Go.RowKit Go.Bl Go.Lq

set_option maxRecDepth 100000 in
theorem neq77 (k1 k2 v1 v2 : ByteArray) (w : World) : (binOp .neq 77 (.agg #[.string k1, .string v1]) (.agg #[.string k2, .string v2])).run Tryz.prog w = .ok (.bool (!((k1.toList == k2.toList) && (v1.toList == v2.toList)))) w := by
  rw [run_neq_struct, run_equalIn_struct w 9999 77 _ _ (by kernel_rfl) (by kernel_rfl)]
  obtain ⟨fs, hfs⟩ : ∃ fs, (Tryz.prog.fieldsOf 77).toList = fs := ⟨_, rfl⟩
  have hu := Tryz.underlying77
  unfold Program.fieldsOf at hfs ⊢
  simp [hu, Op.eqFields, go_sem]
  by_cases h2 : k1.toList = k2.toList
  · by_cases h3 : v1.toList = v2.toList
    · simp [h2, h3]
    · simp [h2, h3]
  · simp [h2]
theorem at_neq (x y : At) (w : World) : (binOp .neq 77 (.agg #[.string ⟨x.key.toArray⟩, .string ⟨x.val.toArray⟩]) (.agg #[.string ⟨y.key.toArray⟩, .string ⟨y.val.toArray⟩])).run Tryz.prog w = .ok (.bool (!decide (x = y))) w := by
  rw [neq77]
  congr 3
  obtain ⟨b, c⟩ := x
  obtain ⟨e, f⟩ := y
  simp only [ByteArray.toList_eq]
  rw [Bool.eq_iff_iff]
  simp
def SARel (w : World) (l1 l2 : List At) (iv : Value) (wr : World) : Prop :=
  ∃ k n, iv = .int .i64 ((k : Nat) : Int) ∧ k ≤ l1.length ∧ wr = w.drewN n ∧ l1.take k = l2.take k
set_option maxRecDepth 100000 in
set_option maxHeartbeats 400000 in
theorem sameA_any (l1 l2 : List At) (v1 v2 : Value) (w : World) (h1 : Ats w v1 l1) (h2 : Ats w v2 l2) (hs : l1.length ≤ 2000000) :
    Calls Tryz.prog 40 #[v1, v2] w fun e w' => e = .returned (.bool (decide (l1 = l2))) ∧ Fr [] w w' := by
  obtain ⟨A1, p1, rfl, hl1, hx1⟩ := h1
  obtain ⟨A2, p2, rfl, hl2, hx2⟩ := h2
  have HX1 := Lib.hid hx1
  have HX2 := Lib.hid hx2
  clear hx1 hx2
  by_cases hne : l1.length = l2.length
  · obtain ⟨ans, hans⟩ : ∃ ans, decide (l1 = l2) = ans := ⟨_, rfl⟩
    rw [hans]
    have HANS := Lib.hid hans
    have q1 : ((l1.length : Int) == (l2.length : Int)) = true := by rw [hne]; simp
    have HNE := Lib.hid hne
    clear hans
    rw [← hne]
    clear hne q1
    go_enter Tryz.func40, Tryz.ntmps40
    go_wp2_with fail
    go_loopw [5] (fun iv wr => SARel w l1 l2 iv wr) (fun iv _ => l1.length - (intOf iv).toNat)
    case atStart => exact ⟨0, 0, rfl, by omega, rfl, rfl⟩
    case round =>
      obtain ⟨k, n, rfl, hk, rfl, htk⟩ := hrel
      by_cases hk2 : k < l1.length
      · have hk3 : k < l2.length := by rw [← HNE.out]; exact hk2
        obtain ⟨a1, rfl, c0, c1⟩ := HX1.out k hk2
        obtain ⟨a2, rfl, d0, d1⟩ := HX2.out k hk3
        have hsp := World.cell?_spot c0
        have hsp2 := World.cell?_spot d0
        obtain ⟨x, hx⟩ : ∃ x, l1[k] = x := ⟨_, rfl⟩
        obtain ⟨y, hy⟩ : ∃ y, l2[k] = y := ⟨_, rfl⟩
        rw [hx] at c0 c1
        rw [hy] at d0 d1
        have g1 : (k : Int) < (l1.length : Int) := by omega
        have g2 : (0 : Int) ≤ (k : Int) ∧ (k : Int) < (l1.length : Int) := by omega
        have hk1 : k + 1 ≤ 2000001 := by omega
        have HT := Lib.hid (And.intro htk (And.intro hx hy))
        clear htk hx hy
        have hnq := at_neq x y
        obtain ⟨bb, hbb⟩ : ∃ bb, decide (x = y) = bb := ⟨_, rfl⟩
        rw [hbb] at hnq
        have HBB := Lib.hid hbb
        clear hbb
        have hwk : True → wrap64 ((k : Int) + 1) = (k : Int) + 1 := fun _ => wrap_big (c := k + 1) (by omega)
        go_wp2_with fail
        go_quiet (fail)
        cases bb with
        | false =>
          go_wp2_with fail
          go_ret
          refine ⟨?_, (((Fr.refl _ _).drewN _).drewN _)⟩
          have hxy : x ≠ y := of_decide_eq_false HBB.out
          rw [← HANS.out, decide_eq_false (fun e => by subst e; exact hxy (by rw [← HT.out.2.1, ← HT.out.2.2]))]
          rfl
        | true =>
          have hxy : x = y := of_decide_eq_true HBB.out
          have HXY := Lib.hid hxy
          clear hxy
          go_wp2_with fail
          refine ⟨⟨k + 1, _, rfl, hk2, rfl, ?_⟩, by simp [intOf]; omega⟩
          rw [List.take_add_one, List.take_add_one, List.getElem?_eq_getElem hk2, List.getElem?_eq_getElem hk3, HT.out.1, HT.out.2.1, HT.out.2.2, HXY.out]
      · obtain rfl : k = l1.length := by omega
        have g1 : ¬ (l1.length : Int) < (l1.length : Int) := by omega
        rw [List.take_of_length_le (Nat.le_refl _), HNE.out, List.take_of_length_le (Nat.le_refl _)] at htk
        have HT := Lib.hid htk
        clear htk
        go_wp2_with fail
        go_ret
        refine ⟨?_, (Fr.refl _ _).drewN _⟩
        rw [← HANS.out, decide_eq_true HT.out]
        rfl
  · rw [decide_eq_false (fun e => hne (by rw [e]))]
    have q1 : ((l1.length : Int) == (l2.length : Int)) = false := beq_eq_false_iff_ne.2 (by omega)
    go_enter Tryz.func40, Tryz.ntmps40
    go_wp2
    go_ret
    exact ⟨rfl, Fr.refl _ _⟩

structure Rc where
  kind : Int
  name : ByteArray
  attrs : List At
  t : Int
  tt : Int
  v : Int
  level : Int
  text : ByteArray
  trace : Bs
  id : Bs
  parent : Bs
def rcList (a : Value) (r : Rc) : List Value := .int .i64 r.kind :: .string r.name :: a :: .int .i64 r.t :: .int .i64 r.tt :: .int .i64 r.v :: .int .i64 r.level :: .string r.text :: (Lib.byteCells r.trace ++ (Lib.byteCells r.id ++ Lib.byteCells r.parent))
/-- A record by value. -/
def RecV (w : World) (v : Value) (r : Rc) : Prop := ∃ A cap, v = .agg (rcList (.slice A r.attrs.length cap) r).toArray ∧ Ats w (.slice A r.attrs.length cap) r.attrs ∧ r.trace.length = 16 ∧ r.id.length = 8 ∧ r.parent.length = 8
theorem RecV.fr {w w' : World} {v : Value} {r : Rc} (h : RecV w v r) (hF : Fr [] w w') : RecV w' v r := by
  obtain ⟨A, cap, e, ha, h1, h2, h3⟩ := h
  exact ⟨A, cap, e, ha.fr hF, h1, h2, h3⟩
theorem rcList_len (a : Value) {r : Rc} (h1 : r.trace.length = 16) (h2 : r.id.length = 8) (h3 : r.parent.length = 8) : (rcList a r).length = 40 := by
  simp [rcList, Lib.byteCells_length, h1, h2, h3]
end Go.Proofs.YtaniaknphjnlkaaGreatDoor
namespace Go.Proofs.YtaniaknphjnlkaaGreatDoor
open Go.RowKit Go.Bl Go.Lq

theorem parse1 : parseP Lib.validD known1 = (knownQ, 0, 0) := by
  unfold parseP
  rw [if_neg (by decide), read1]
  dsimp only
  rw [right3]
  rfl
theorem parse2 : parseP Lib.validD known2 = (zeroQ, 131, 4) := by
  unfold parseP
  rw [if_neg (by decide), read2]
  rfl
theorem print3 : printP Lib.validD knownQ = (known3, 0) := by
  unfold printP
  rw [right3, text3]
  rfl
set_option maxRecDepth 100000 in
set_option maxHeartbeats 800000 in
theorem known_any (w : World) (hG : GV w) (h8 : 8 ≤ w.heap.size) :
    Calls Tryz.prog 8 #[] w fun e w' => e = .returned (.bool true) ∧ Fr [] w w' := by
  have hp1 := parse_all ⟨known1.toArray⟩ hG h8
  go_enter Tryz.func8, Tryz.ntmps8
  go_wp2_with fail
  refine hp1.mono ?_
  rintro e w1 ⟨hF1, v1, he, hv1⟩
  rw [show (ByteArray.mk known1.toArray).data.toList = known1 from rfl, parse1] at he hv1
  subst he
  obtain ⟨c2, c4, rfl, m2, m4⟩ := hv1
  obtain ⟨A4, cp4, rfl, hl4, hx4⟩ := id m4
  obtain ⟨A2, cp2, rfl, hl2, hx2⟩ := id m2
  obtain ⟨WB, hWB⟩ : ∃ WB, w1.alloc (.cells #[.slice A2 knownQ.mat.length cp2, .int .i64 knownQ.level, .slice A4 knownQ.tests.length cp4, .int .i64 knownQ.limit] 24) = WB := ⟨_, rfl⟩
  have hFB : Fr [] w1 WB := by rw [← hWB]; exact (Fr.refl _ _).alloc _
  have hB1 : WB.heap[w1.heap.size]? = some (.cells #[.slice A2 knownQ.mat.length cp2, .int .i64 knownQ.level, .slice A4 knownQ.tests.length cp4, .int .i64 knownQ.limit] 24 (0, 0)) := by rw [← hWB]; exact heap_alloc w1 _
  have hFw := hF1.trans hFB
  have hp2 := parse_all ⟨known2.toArray⟩ (w := WB) (hG.below (B := 8) (hFw.below h8 (by simp)) (by omega)) (by have := hFw.size; omega)
  have HM := Lib.hid (And.intro m2 (And.intro m4 (And.intro hFB (And.intro hB1 hFw))))
  clear m2 m4 hF1 hx4 hx2 hp1 hFB hB1 hFw
  go_wp2_with fail
  (try rw [hWB])
  go_wp2_with fail
  refine hp2.mono ?_
  rintro e w2 ⟨hF2, v2, he, hv2⟩
  rw [show (ByteArray.mk known2.toArray).data.toList = known2 from rfl, parse2] at he hv2
  subst he
  obtain ⟨d2, d4, rfl, ⟨D2, dp2, rfl, _⟩, ⟨D4, dp4, rfl, _⟩⟩ := hv2
  obtain ⟨WC, hWC⟩ : ∃ WC, w2.alloc (.cells #[.slice D2 zeroQ.mat.length dp2, .int .i64 zeroQ.level, .slice D4 zeroQ.tests.length dp4, .int .i64 zeroQ.limit] 24) = WC := ⟨_, rfl⟩
  have hFC : Fr [] WB WC := hF2.trans (by rw [← hWC]; exact (Fr.refl _ _).alloc _)
  have hb := hFC.obj HM.out.2.2.2.1 (by simp)
  have k0 := cell_of hb 0
  have k1 := cell_of hb 1
  have k2 := cell_of hb 2
  have k3 := cell_of hb 3
  simp only [List.getElem?_toArray, List.getElem?_cons_zero, List.getElem?_cons_succ] at k0 k1 k2 k3
  have hFw2 := HM.out.2.2.2.2.trans hFC
  have hpr := print_any knownQ _ WC (hG.below (B := 8) (hFw2.below h8 (by simp)) (by omega)) (by have := hFw2.size; omega) ⟨_, _, rfl, (HM.out.1.fr HM.out.2.2.1).fr hFC, (HM.out.2.1.fr HM.out.2.2.1).fr hFC⟩
  rw [print3] at hpr
  have HF2 := Lib.hid (And.intro hFw2 hb)
  clear hF2 hFC hb hFw2 hp2 hWB
  go_wp2_with fail
  (try rw [hWC])
  go_wp2_with fail
  refine hpr.mono ?_
  rintro e w3 ⟨rfl, hF3⟩
  have hb3 := hF3.obj HF2.out.2 (by simp)
  have l0 := cell_of hb3 0
  have l1 := cell_of hb3 1
  have l2 := cell_of hb3 2
  have l3 := cell_of hb3 3
  simp only [List.getElem?_toArray, List.getElem?_cons_zero, List.getElem?_cons_succ] at l0 l1 l2 l3
  have n1 : knownQ.level = 9 := rfl
  have n2 : knownQ.limit = 5 := rfl
  have n3 : knownQ.tests.length = 2 := rfl
  have n4 : known3.toArray = #[123, 101, 110, 118, 61, 34, 112, 114, 111, 100, 34, 125, 32, 124, 32, 108, 101, 118, 101, 108, 32, 57, 32, 124, 61, 32, 34, 101, 114, 114, 111, 114, 34, 32, 124, 32, 117, 115, 101, 114, 33, 61, 34, 97, 110, 110, 34, 32, 124, 32, 108, 105, 109, 105, 116, 32, 53] := rfl
  have HF3 := Lib.hid (HF2.out.1.trans hF3)
  clear hF3 hb3 hWC k0 k1 k2 k3
  go_wp2_with fail
  go_ret
  exact ⟨rfl, HF3.out⟩
end Go.Proofs.YtaniaknphjnlkaaGreatDoor
