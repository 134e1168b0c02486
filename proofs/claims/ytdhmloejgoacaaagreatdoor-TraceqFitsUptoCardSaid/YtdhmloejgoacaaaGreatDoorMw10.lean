/- byteStringReplacer.Replace. -/
import Derived.Test.YtdhmloejgoacaaaGreatDoorMw08
import Derived.Test.YtdhmloejgoacaaaGreatDoorMw04
import Derived.Test.YtdhmloejgoacaaaGreatDoorMw02
import Derived.Test.YtdhmloejgoacaaaGreatDoorShelf
import Derived.Deep.DeepCutAuto
import Derived.Laws.CopyOwn
import Derived.Test.YtdhmloejgoacaaaGreatDoorMw05
set_option linter.unusedVariables false
set_option linter.unusedSimpArgs false
namespace Go.Proofs.YtdhmloejgoacaaaGreatDoor
open Go.RowKit Go.Bl Go.Lq

theorem wrap_one {c : Nat} (h : c ≤ 100000) : wrap64 (c : Int) = (c : Int) := by unfold wrap64; omega
theorem wrap_sum {x c : Nat} (h : x + c ≤ 100000) : wrap64 ((x : Int) + (c : Int)) = (x : Int) + (c : Int) := by unfold wrap64; omega
theorem cnt_ne {a c : Nat} (h : ¬ c = 0) : a + c ≠ 0 := by omega
def cntK (l : Bs) : Nat → Nat | 0 => 0 | 1 => l.count 10 | 2 => l.count 10 + l.count 92 | _ => l.count 10 + (l.count 92 + l.count 34)
def CntRel (s : ByteArray) (w : World) (iv s5 s6 : Value) (wr : World) : Prop :=
  ∃ k n, iv = .int .i64 ((k : Nat) : Int) ∧ k ≤ 3 ∧ wr = w.drewN n ∧ s5 = .int .i64 ((s.size + cntK s.data.toList k : Nat) : Int) ∧ s6 = .bool (decide (cntK s.data.toList k ≠ 0))
def ByteCnt (s : ByteArray) (w : World) (iv s5 s6 : Value) (wr : World) : Prop :=
  ∃ k n, iv = .int .i64 ((k : Nat) : Int) ∧ k ≤ s.size ∧ wr = w.drewN n ∧ s5 = .int .i64 ((s.size + (s.data.toList.take k).countP isQ : Nat) : Int) ∧ s6 = .bool (decide ((s.data.toList.take k).countP isQ ≠ 0))

theorem made_one (x : Value) (n : Nat) : madeCells #[x] n = (List.replicate n x).toArray := by
  unfold madeCells
  apply Array.ext
  · simp
  · intro i h1 h2
    simp [Nat.mod_one]
theorem infoU8 : (Tryz.prog.info? 5).map (fun i => (i.zero, i.size, i.bytes)) = some (some (.int .u8 0), 1, 1) := by kernel_rfl
theorem made_bytes {N : Nat} (hN : N ≤ 4000) (w : World) : (Instr.makeSlice 140 (.int .i64 (N : Int)) (.int .i64 (N : Int))).run Tryz.prog w = .ok (.slice (some ⟨w.heap.size, 0, none⟩) N N) (w.alloc (.cells (List.replicate N (.int .u8 0)).toArray 5)) := by
  obtain ⟨i0, hi0, hz0, hz1, hz2⟩ := info_parts infoU8
  have := run_makeSlice w 140 5 i0 (.int .u8 0) Tryz.underlying140 hi0 hz0 .i64 .i64 N N (by omega) (by omega) (by rw [hz1]; omega) (by rw [hz2]; omega) (by omega)
  rw [hz1, Int.toNat_natCast, Nat.mul_one, show (Value.int .u8 0).cells = #[.int .u8 0] from rfl, made_one] at this
  exact this
def flatK (s : ByteArray) (k : Nat) : Bs := (s.data.toList.take k).flatMap esc
def bufK (s : ByteArray) (N k : Nat) : List Value := Lib.byteCells (flatK s k) ++ List.replicate (N - (flatK s k).length) (.int .u8 0)
def OutRel (s : ByteArray) (w : World) (N : Nat) (jv iv : Value) (wr : World) : Prop :=
  ∃ k, iv = .int .i64 ((k : Nat) : Int) ∧ k ≤ s.size ∧ jv = .int .i64 ((flatK s k).length : Int) ∧ wr.heap[w.heap.size]? = some (.cells (bufK s N k).toArray 5 (0, 0)) ∧ Below w.heap.size w wr

theorem flatK_le (s : ByteArray) (k : Nat) : (flatK s k).length ≤ (s.data.toList.flatMap esc).length := by
  unfold flatK
  conv => rhs; rw [← List.take_append_drop k s.data.toList, List.flatMap_append, List.length_append]
  omega
theorem splice_at {α : Type} (A B cs : List α) : splice (A ++ B) A.length cs = A ++ (cs ++ B.drop cs.length) := by
  unfold splice
  rw [List.take_left, List.drop_append, List.drop_of_length_le (by omega)]
  simp
theorem splice_bufK {s : ByteArray} {N k : Nat} {e : Bs} (h : flatK s (k + 1) = flatK s k ++ e) (hN : (flatK s k).length + e.length ≤ N) :
    splice (bufK s N k) (flatK s k).length (Lib.byteCells e) = bufK s N (k + 1) := by
  unfold bufK
  have h2 := splice_at (Lib.byteCells (flatK s k)) (List.replicate (N - (flatK s k).length) (Value.int .u8 0)) (Lib.byteCells e)
  rw [Lib.byteCells_length] at h2
  rw [h2, h, Lib.byteCells_append, List.append_assoc, List.drop_replicate, Lib.byteCells_length, List.length_append, Nat.sub_sub]
theorem splice_one {α : Type} (L : List α) (j : Nat) (x : α) (h : j < L.length) : L.set j x = splice L j [x] := by
  unfold splice
  rw [List.set_eq_take_append_cons_drop, if_pos h]
  rfl
theorem fr_newR {w w' : World} (h : Below w.heap.size w w') (S : List Nat) : Fr S w w' := ⟨h.os, h.tape, h.output, h.size, fun i hi _ => h.block i hi⟩

set_option maxRecDepth 100000 in
set_option maxHeartbeats 400000 in
theorem rpl_any : ReplC := by
  intro RB base s w hs hB
  obtain ⟨T, M, cap, hT, hTs, hTM, hM, hstr, hnil, hrep⟩ := hB.ex
  have c256 := cell_of hT 256
  rw [hTM] at c256
  have m0 : w.cell? ⟨M, 0, none⟩ = some (.string ⟨#[10]⟩) := hstr 0 _ rfl
  have m1 : w.cell? ⟨M, 1, none⟩ = some (.string ⟨#[92]⟩) := hstr 1 _ rfl
  have m2 : w.cell? ⟨M, 2, none⟩ = some (.string ⟨#[34]⟩) := hstr 2 _ rfl
  obtain ⟨K0, q0, a0, b0, d0⟩ := hrep 0 (by omega)
  obtain ⟨K1, q1, a1, b1, d1⟩ := hrep 1 (by omega)
  obtain ⟨K2, q2, a2, b2, d2⟩ := hrep 2 (by omega)
  have r0 : w.cell? ⟨RB, 10, none⟩ = some (.slice (some ⟨K0, 0, none⟩) 2 q0) := (cell_of hT 10).trans a0
  have r1 : w.cell? ⟨RB, 92, none⟩ = some (.slice (some ⟨K1, 0, none⟩) 2 q1) := (cell_of hT 92).trans a1
  have r2 : w.cell? ⟨RB, 34, none⟩ = some (.slice (some ⟨K2, 0, none⟩) 2 q2) := (cell_of hT 34).trans a2
  have hlen := bytes_len s
  have HT := Lib.hid hT
  have HB := Lib.hid hB
  have HN := Lib.hid hnil
  have HD := Lib.hid (And.intro d0 (And.intro d1 d2))
  clear hT hB hnil hstr hrep hTM d0 d1 d2 a0 a1 a2
  have i10 : ∀ h, (ByteArray.mk #[10])[0]'h = 10 := fun _ => rfl
  have i92 : ∀ h, (ByteArray.mk #[92])[0]'h = 92 := fun _ => rfl
  have i34 : ∀ h, (ByteArray.mk #[34])[0]'h = 34 := fun _ => rfl
  obtain ⟨bq, hbq⟩ : ∃ bq, decide ((24 : Int) ≤ (s.size : Int)) = bq := ⟨_, rfl⟩
  go_enter Tryz.func260, Tryz.ntmps260
  go_upto_if 26 with fail
  go_cut [5, 6] (fun s5 s6 wx => (∃ n, wx = w.drewN n) ∧ s5 = .int .i64 ((s.size + s.data.toList.countP isQ : Nat) : Int) ∧ s6 = .bool (decide (s.data.toList.countP isQ ≠ 0)))
  case first =>
    cases bq with
    | true =>
      clear hbq
      go_wp2_with fail
      go_loopw [32, 5, 6] (fun iv s5 s6 wr => CntRel s w iv s5 s6 wr) (fun iv _ _ _ => 3 - (intOf iv).toNat)
      case atStart => exact ⟨0, 0, rfl, by omega, rfl, by simp [cntK], by simp [cntK]⟩
      case round =>
        obtain ⟨k, n, rfl, hk3, rfl, rfl, rfl⟩ := hrel
        rcases (by omega : k = 0 ∨ k = 1 ∨ k = 2 ∨ k = 3) with rfl | rfl | rfl | rfl
        · obtain ⟨x, hx⟩ : ∃ x : Nat, s.size + cntK s.data.toList 0 = x := ⟨_, rfl⟩
          obtain ⟨bb, hbb⟩ : ∃ bb, decide (cntK s.data.toList 0 ≠ 0) = bb := ⟨_, rfl⟩
          obtain ⟨c, hc⟩ : ∃ c : Nat, s.data.toList.count 10 = c := ⟨_, rfl⟩
          have hcl : c ≤ s.size := by rw [← hc, ← hlen]; exact List.count_le_length
          have hxl : x ≤ 4000 := by
            have h1 : s.data.toList.count 10 ≤ s.size := by rw [← hlen]; exact List.count_le_length
            have h2 : s.data.toList.count 92 ≤ s.size := by rw [← hlen]; exact List.count_le_length
            have h3 : s.data.toList.count 34 ≤ s.size := by rw [← hlen]; exact List.count_le_length
            rw [← hx]
            simp only [cntK]
            omega
          have hcK : cntK s.data.toList 1 = cntK s.data.toList 0 + c := by rw [← hc]; simp only [cntK]; (try omega)
          have hC0 := Tryz.strings_Count_one s 10 (w.drewN n)
          rw [show Lib.countByte s.data.toList 10 = c from hc] at hC0
          have HC := Lib.hid hC0
          clear hC0
          rw [hx, hbb]
          have HX := Lib.hid (And.intro hx (And.intro hbb hcK))
          clear hx hbb hcK hc
          go_wp2_with fail
          refine HC.out.mono ?_
          rintro e w' ⟨rfl, rfl⟩
          have hb1 : c ≤ 100000 := by omega
          have hb2 : x + c ≤ 100000 := by omega
          have hw1 : True → wrap64 (c : Int) = (c : Int) := fun _ => wrap_one hb1
          have hw2 : True → wrap64 ((x : Int) + (c : Int)) = (x : Int) + (c : Int) := fun _ => wrap_sum hb2
          by_cases h0 : c = 0
          · subst h0
            go_wp2_with fail
            clear hw1 hw2
            refine ⟨⟨1, n, rfl, by omega, rfl, ?_, ?_⟩, by simp [intOf]⟩
            · rw [HX.out.2.2, Nat.add_zero, HX.out.1]
            · rw [HX.out.2.2, Nat.add_zero, HX.out.2.1]
          · have h1 : ((c : Int) == 0) = false := by simpa using h0
            go_wp2_with fail
            go_quiet (fail)
            go_wp2_with fail
            clear hw1 hw2
            have e5 : Value.int .i64 ((x : Int) + (c : Int)) = .int .i64 ((s.size + cntK s.data.toList 1 : Nat) : Int) := by
              rw [HX.out.2.2, ← Nat.add_assoc, HX.out.1, Int.natCast_add]
            have e6 : Value.bool true = .bool (decide (cntK s.data.toList 1 ≠ 0)) := by
              rw [HX.out.2.2, decide_eq_true (cnt_ne h0)]
            exact ⟨⟨1, n + nq, rfl, (by decide), rfl, e5, e6⟩, (by simp [intOf])⟩
        · obtain ⟨x, hx⟩ : ∃ x : Nat, s.size + cntK s.data.toList 1 = x := ⟨_, rfl⟩
          obtain ⟨bb, hbb⟩ : ∃ bb, decide (cntK s.data.toList 1 ≠ 0) = bb := ⟨_, rfl⟩
          obtain ⟨c, hc⟩ : ∃ c : Nat, s.data.toList.count 92 = c := ⟨_, rfl⟩
          have hcl : c ≤ s.size := by rw [← hc, ← hlen]; exact List.count_le_length
          have hxl : x ≤ 4000 := by
            have h1 : s.data.toList.count 10 ≤ s.size := by rw [← hlen]; exact List.count_le_length
            have h2 : s.data.toList.count 92 ≤ s.size := by rw [← hlen]; exact List.count_le_length
            have h3 : s.data.toList.count 34 ≤ s.size := by rw [← hlen]; exact List.count_le_length
            rw [← hx]
            simp only [cntK]
            omega
          have hcK : cntK s.data.toList 2 = cntK s.data.toList 1 + c := by rw [← hc]; simp only [cntK]; (try omega)
          have hC0 := Tryz.strings_Count_one s 92 (w.drewN n)
          rw [show Lib.countByte s.data.toList 92 = c from hc] at hC0
          have HC := Lib.hid hC0
          clear hC0
          rw [hx, hbb]
          have HX := Lib.hid (And.intro hx (And.intro hbb hcK))
          clear hx hbb hcK hc
          go_wp2_with fail
          refine HC.out.mono ?_
          rintro e w' ⟨rfl, rfl⟩
          have hb1 : c ≤ 100000 := by omega
          have hb2 : x + c ≤ 100000 := by omega
          have hw1 : True → wrap64 (c : Int) = (c : Int) := fun _ => wrap_one hb1
          have hw2 : True → wrap64 ((x : Int) + (c : Int)) = (x : Int) + (c : Int) := fun _ => wrap_sum hb2
          by_cases h0 : c = 0
          · subst h0
            go_wp2_with fail
            clear hw1 hw2
            refine ⟨⟨2, n, rfl, by omega, rfl, ?_, ?_⟩, by simp [intOf]⟩
            · rw [HX.out.2.2, Nat.add_zero, HX.out.1]
            · rw [HX.out.2.2, Nat.add_zero, HX.out.2.1]
          · have h1 : ((c : Int) == 0) = false := by simpa using h0
            go_wp2_with fail
            go_quiet (fail)
            go_wp2_with fail
            clear hw1 hw2
            have e5 : Value.int .i64 ((x : Int) + (c : Int)) = .int .i64 ((s.size + cntK s.data.toList 2 : Nat) : Int) := by
              rw [HX.out.2.2, ← Nat.add_assoc, HX.out.1, Int.natCast_add]
            have e6 : Value.bool true = .bool (decide (cntK s.data.toList 2 ≠ 0)) := by
              rw [HX.out.2.2, decide_eq_true (cnt_ne h0)]
            exact ⟨⟨2, n + nq, rfl, (by decide), rfl, e5, e6⟩, (by simp [intOf])⟩
        · obtain ⟨x, hx⟩ : ∃ x : Nat, s.size + cntK s.data.toList 2 = x := ⟨_, rfl⟩
          obtain ⟨bb, hbb⟩ : ∃ bb, decide (cntK s.data.toList 2 ≠ 0) = bb := ⟨_, rfl⟩
          obtain ⟨c, hc⟩ : ∃ c : Nat, s.data.toList.count 34 = c := ⟨_, rfl⟩
          have hcl : c ≤ s.size := by rw [← hc, ← hlen]; exact List.count_le_length
          have hxl : x ≤ 4000 := by
            have h1 : s.data.toList.count 10 ≤ s.size := by rw [← hlen]; exact List.count_le_length
            have h2 : s.data.toList.count 92 ≤ s.size := by rw [← hlen]; exact List.count_le_length
            have h3 : s.data.toList.count 34 ≤ s.size := by rw [← hlen]; exact List.count_le_length
            rw [← hx]
            simp only [cntK]
            omega
          have hcK : cntK s.data.toList 3 = cntK s.data.toList 2 + c := by rw [← hc]; simp only [cntK]; (try omega)
          have hC0 := Tryz.strings_Count_one s 34 (w.drewN n)
          rw [show Lib.countByte s.data.toList 34 = c from hc] at hC0
          have HC := Lib.hid hC0
          clear hC0
          rw [hx, hbb]
          have HX := Lib.hid (And.intro hx (And.intro hbb hcK))
          clear hx hbb hcK hc
          go_wp2_with fail
          refine HC.out.mono ?_
          rintro e w' ⟨rfl, rfl⟩
          have hb1 : c ≤ 100000 := by omega
          have hb2 : x + c ≤ 100000 := by omega
          have hw1 : True → wrap64 (c : Int) = (c : Int) := fun _ => wrap_one hb1
          have hw2 : True → wrap64 ((x : Int) + (c : Int)) = (x : Int) + (c : Int) := fun _ => wrap_sum hb2
          by_cases h0 : c = 0
          · subst h0
            go_wp2_with fail
            clear hw1 hw2
            refine ⟨⟨3, n, rfl, by omega, rfl, ?_, ?_⟩, by simp [intOf]⟩
            · rw [HX.out.2.2, Nat.add_zero, HX.out.1]
            · rw [HX.out.2.2, Nat.add_zero, HX.out.2.1]
          · have h1 : ((c : Int) == 0) = false := by simpa using h0
            go_wp2_with fail
            go_quiet (fail)
            go_wp2_with fail
            clear hw1 hw2
            have e5 : Value.int .i64 ((x : Int) + (c : Int)) = .int .i64 ((s.size + cntK s.data.toList 3 : Nat) : Int) := by
              rw [HX.out.2.2, ← Nat.add_assoc, HX.out.1, Int.natCast_add]
            have e6 : Value.bool true = .bool (decide (cntK s.data.toList 3 ≠ 0)) := by
              rw [HX.out.2.2, decide_eq_true (cnt_ne h0)]
            exact ⟨⟨3, n + nq, rfl, (by decide), rfl, e5, e6⟩, (by simp [intOf])⟩
        · go_wp2_with fail
          go_meet
          exact ⟨⟨n, rfl⟩, by rw [count3]; rfl, by rw [count3]; rfl⟩
    | false =>
      clear hbq
      have hne := neq_nil
      have hns := neq_some
      go_wp2_with fail
      go_loopw [10, 5, 6] (fun iv s5 s6 wr => ByteCnt s w iv s5 s6 wr) (fun iv _ _ _ => s.size - (intOf iv).toNat)
      case atStart => exact ⟨0, 0, rfl, by omega, rfl, by simp, by simp⟩
      case round =>
        obtain ⟨k, n, rfl, hk, rfl, rfl, rfl⟩ := hrel
        obtain ⟨x, hx⟩ : ∃ x : Nat, s.size + (s.data.toList.take k).countP isQ = x := ⟨_, rfl⟩
        obtain ⟨bb, hbb⟩ : ∃ bb, decide ((s.data.toList.take k).countP isQ ≠ 0) = bb := ⟨_, rfl⟩
        have hxl : x + 1 ≤ 100000 := by
          have h1 : (s.data.toList.take k).countP isQ ≤ (s.data.toList.take k).length := List.countP_le_length
          have h2 : (s.data.toList.take k).length ≤ s.size := by rw [List.length_take]; omega
          omega
        rw [hx, hbb]
        by_cases hk2 : k < s.size
        · have g1 : (k : Int) < (s.size : Int) := by omega
          have g2 : (0 : Int) ≤ (k : Int) ∧ (k : Int) < (s.size : Int) := by omega
          obtain ⟨c, hc⟩ : ∃ c, s[k] = c := ⟨_, rfl⟩
          have hcl : s.data.toList[k]'(by omega) = c := by rw [← hc]; cases s; rfl
          have hkk : k + 1 ≤ 100000 := by omega
          have htc := take_count s.data.toList k (by omega)
          rw [hcl] at htc
          have HX := Lib.hid (And.intro hx (And.intro hbb htc))
          clear hx hbb htc hcl
          have hwk : True → wrap64 ((k : Int) + 1) = (k : Int) + 1 := fun _ => wrap_sum (x := k) (c := 1) hkk
          have hw2 : True → wrap64 ((x : Int) + 1) = (x : Int) + 1 := fun _ => wrap_sum (x := x) (c := 1) hxl
          have h256 : (c.toNat : Int) < 256 := by have := c.toNat_lt; omega
          have h256n : c.toNat < 256 := c.toNat_lt
          cases hq : isQ c with
          | true =>
            obtain ⟨K, q, hcell⟩ : ∃ K q, w.cell? ⟨RB, c.toNat, none⟩ = some (.slice (some ⟨K, 0, none⟩) 2 q) := by
              simp only [isQ, Bool.or_eq_true, beq_iff_eq] at hq
              rcases hq with (rfl | rfl) | rfl
              · exact ⟨_, _, r2⟩
              · exact ⟨_, _, r1⟩
              · exact ⟨_, _, r0⟩
            go_wp2_with fail
            have e5 : Value.int .i64 ((x : Int) + 1) = .int .i64 ((s.size + (s.data.toList.take (k + 1)).countP isQ : Nat) : Int) := by
              rw [HX.out.2.2, hq, if_pos rfl, ← Nat.add_assoc, HX.out.1]
              rfl
            have e6 : Value.bool true = .bool (decide ((s.data.toList.take (k + 1)).countP isQ ≠ 0)) := by
              rw [HX.out.2.2, hq, if_pos rfl, decide_eq_true (cnt_ne (by decide))]
            exact ⟨⟨k + 1, n, rfl, hk2, rfl, e5, e6⟩, by simp [intOf]; omega⟩
          | false =>
            have hcell : w.cell? ⟨RB, c.toNat, none⟩ = some (.slice none 0 0) := by
              rw [cell_of HT.out]
              refine HN.out _ h256n (fun j hj => ?_)
              simp only [isQ, Bool.or_eq_false_iff, beq_eq_false_iff_ne] at hq
              intro e
              rcases (by omega : j = 0 ∨ j = 1 ∨ j = 2) with rfl | rfl | rfl
              · exact hq.2 (UInt8.toNat_inj.1 e)
              · exact hq.1.2 (UInt8.toNat_inj.1 e)
              · exact hq.1.1 (UInt8.toNat_inj.1 e)
            go_wp2_with fail
            have e5 : Value.int .i64 (x : Int) = .int .i64 ((s.size + (s.data.toList.take (k + 1)).countP isQ : Nat) : Int) := by
              rw [HX.out.2.2, hq, if_neg (by simp), Nat.add_zero, HX.out.1]
            have e6 : Value.bool bb = .bool (decide ((s.data.toList.take (k + 1)).countP isQ ≠ 0)) := by
              rw [HX.out.2.2, hq, if_neg (by simp), Nat.add_zero, HX.out.2.1]
            exact ⟨⟨k + 1, n, rfl, hk2, rfl, e5, e6⟩, by simp [intOf]; omega⟩
        · obtain rfl : k = s.size := by omega
          have g1 : ¬ (s.size : Int) < (s.size : Int) := by omega
          have ht : s.data.toList.take s.size = s.data.toList := List.take_of_length_le (by omega)
          rw [ht] at hx hbb
          have HX := Lib.hid (And.intro hx hbb)
          clear hx hbb ht
          go_wp2_with fail
          go_meet
          exact ⟨⟨n, rfl⟩, by rw [HX.out.1], by rw [HX.out.2]⟩
  case rest =>
    obtain ⟨⟨n, rfl⟩, rfl, rfl⟩ := hcut
    clear hbq
    have hfl := flat_len s.data.toList
    rw [hlen] at hfl
    by_cases h0 : s.data.toList.countP isQ = 0
    · have hid := flat_id h0
      have g0 : decide (s.data.toList.countP isQ ≠ 0) = false := by rw [h0]; rfl
      rw [g0]
      have HI := Lib.hid hid
      clear hid hfl
      go_wp2_with fail
      go_ret
      refine ⟨?_, (Fr.refl _ _).drewN n⟩
      rw [HI.out]
      cases s
      rfl
    · have g0 : decide (s.data.toList.countP isQ ≠ 0) = true := decide_eq_true h0
      rw [g0, ← hfl]
      have hcl : s.data.toList.countP isQ ≤ s.size := by rw [← hlen]; exact List.countP_le_length
      obtain ⟨N, hN⟩ : ∃ N, (s.data.toList.flatMap esc).length = N := ⟨_, rfl⟩
      have hNl : N ≤ 4000 := by omega
      have hNs : s.size ≤ N := by omega
      rw [hN]
      have HNF := Lib.hid hN
      have HR := Lib.hid (And.intro r0 (And.intro r1 r2))
      clear hN hfl h0 g0 hcl r0 r1 r2 c256 m0 m1 m2 i10 i92 i34
      have hmk := made_bytes hNl
      have hne := neq_nil
      have hns := neq_some
      have HNl := Lib.hid hNl
      have HNs := Lib.hid hNs
      go_wp2_with fail
      go_loopw [13, 14] (fun jv iv wr => OutRel s w N jv iv wr) (fun _ iv _ => s.size - (intOf iv).toNat)
      case atStart =>
        refine ⟨0, rfl, by omega, rfl, ?_, (Below.refl _ w).trans ?_⟩
        · exact heap_alloc (w.drewN n) _
        · exact (((Fr.refl [] w).drewN n).alloc _).below (Nat.le_refl _) (by simp)
      case round =>
        obtain ⟨k, rfl, hk, rfl, hq, hbel⟩ := hrel
        have hFr : Fr [] w wr := fr_newR hbel []
        have hjN := flatK_le s k
        rw [HNF.out] at hjN
        have hBl : w.heap.size ≤ wr.heap.size := hbel.size
        by_cases hk2 : k < s.size
        · have g1 : (k : Int) < (s.size : Int) := by omega
          have g2 : (0 : Int) ≤ (k : Int) ∧ (k : Int) < (s.size : Int) := by omega
          obtain ⟨c, hc⟩ : ∃ c, s[k] = c := ⟨_, rfl⟩
          have hcl : s.data.toList[k]'(by omega) = c := by rw [← hc]; cases s; rfl
          have hft := take_flat s.data.toList k (by omega)
          rw [hcl] at hft
          have hjN1 := flatK_le s (k + 1)
          rw [HNF.out] at hjN1
          have hft2 : flatK s (k + 1) = flatK s k ++ esc c := hft
          have hft3 : (flatK s (k + 1)).length = (flatK s k).length + (esc c).length := by rw [hft2, List.length_append]
          rw [hft3] at hjN1
          obtain ⟨j, hj⟩ : ∃ j, (flatK s k).length = j := ⟨_, rfl⟩
          have hkk : k + 1 ≤ 100000 := by omega
          have h256 : (c.toNat : Int) < 256 := by have := c.toNat_lt; omega
          have h256n : c.toNat < 256 := c.toNat_lt
          rw [hj] at hjN hjN1 hft3 ⊢
          have hNl := HNl.out
          have b2 : j + 2 ≤ 100000 := by omega
          have g3 : (0 : Int) ≤ (j : Int) ∧ (j : Int) ≤ (N : Int) := by omega
          cases hqc : isQ c with
          | true =>
            have he2 : (esc c).length = 2 := by rw [esc_len, hqc]; rfl
            obtain ⟨K, q, hcell, hK⟩ : ∃ K q, w.cell? ⟨RB, c.toNat, none⟩ = some (.slice (some ⟨K, 0, none⟩) 2 q) ∧ ∀ j u, (esc c)[j]? = some u → w.cell? ⟨K, j, none⟩ = some (.int .u8 (u.toNat : Int)) := by
              simp only [isQ, Bool.or_eq_true, beq_iff_eq] at hqc
              rcases hqc with (rfl | rfl) | rfl
              · exact ⟨_, _, HR.out.2.2, HD.out.2.2⟩
              · exact ⟨_, _, HR.out.2.1, HD.out.2.1⟩
              · exact ⟨_, _, HR.out.1, HD.out.1⟩
            have hcell2 := cell_frS hFr hcell (by simp)
            have hsrc : ∀ i v, (Lib.byteCells (esc c))[i]? = some v → wr.cell? ((⟨K, 0, none⟩ : Addr).add i) = some v := by
              intro i v hv
              rw [add_at']
              unfold Lib.byteCells at hv
              rw [List.getElem?_map] at hv
              obtain ⟨u, hu, rfl⟩ := Option.map_eq_some_iff.1 hv
              exact cell_frS hFr (hK i u hu) (by simp)
            have hbl : (bufK s N k).length = N := by unfold bufK; rw [List.length_append, Lib.byteCells_length, List.length_replicate, hj]; omega
            have hcs : (Lib.byteCells (esc c)).length = 2 := by rw [Lib.byteCells_length, he2]
            have hmin : (Lib.byteCells (esc c)).length = Nat.min 2 (N - j) := by rw [hcs]; exact (Nat.min_eq_left (by omega)).symm
            have hfit : j + (Lib.byteCells (esc c)).length ≤ (bufK s N k).length := by rw [hcs, hbl]; omega
            have hsp := splice_bufK (N := N) hft2 (by rw [he2, hj]; omega)
            rw [hj] at hsp
            have hj2 : j + 2 ≤ N := by rw [← he2]; omega
            have HS := Lib.hid (And.intro hsp (And.intro hsrc (And.intro hmin (And.intro hfit (And.intro hcs (And.intro hft3 he2))))))
            have HQ := Lib.hid hq
            have HBE := Lib.hid hbel
            clear hsp hsrc hmin hfit hcs hbl hft hft2 hft3 hcell hK hcl hq hbel hjN hjN1 he2 hqc
            have hwk : True → wrap64 ((k : Int) + 1) = (k : Int) + 1 := fun _ => wrap_sum (x := k) (c := 1) hkk
            have hw2 : True → wrap64 ((j : Int) + 2) = (j : Int) + 2 := fun _ => wrap_sum (x := j) (c := 2) b2
            go_wp2_with fail
            go_region_law (refine step_copy_splice rfl (.tmp 105) (.tmp 111) 140 140 rfl 5 Tryz.underlying140 (by kernel_rfl) (some ⟨w.heap.size, j, none⟩) (some ⟨K, 0, none⟩) (N - j) (N - j) 2 q (by simp [Act.eval]; omega) (by simp [Act.eval]) w.heap.size j (bufK s N k) 5 HQ.out (Lib.byteCells (esc c)) HS.out.2.2.1 (fun _ => ⟨rfl, _, rfl, HS.out.2.1⟩) HS.out.2.2.2.1 (Lib.byteCells_one _) w.heap.size w HBE.out.drew (Nat.le_refl _) ?_; intro w' hg' hb'; have hcs2 := HS.out.2.2.2.2.1)
            all_goals
              go_wp2_with fail
              clear hwk hw2
              have e5 : Value.int .i64 ((j : Int) + 2) = .int .i64 ((flatK s (k + 1)).length : Int) := by
                rw [HS.out.2.2.2.2.2.1, HS.out.2.2.2.2.2.2]
                rfl
              have e6 : w'.heap[w.heap.size]? = some (.cells (bufK s N (k + 1)).toArray 5 (0, 0)) := by
                rw [← HS.out.1]
                exact hg'.out
              exact ⟨⟨k + 1, rfl, hk2, e5, e6, hb'⟩, by simp [intOf]; omega⟩
          | false =>
            have he1 : esc c = [c] := esc_plain hqc
            have hcell : w.cell? ⟨RB, c.toNat, none⟩ = some (.slice none 0 0) := by
              rw [cell_of HT.out]
              refine HN.out _ h256n (fun j hj => ?_)
              simp only [isQ, Bool.or_eq_false_iff, beq_eq_false_iff_ne] at hqc
              intro e
              rcases (by omega : j = 0 ∨ j = 1 ∨ j = 2) with rfl | rfl | rfl
              · exact hqc.2 (UInt8.toNat_inj.1 e)
              · exact hqc.1.2 (UInt8.toNat_inj.1 e)
              · exact hqc.1.1 (UInt8.toNat_inj.1 e)
            have hcell2 := cell_frS hFr hcell (by simp)
            have hj1 : j + 1 ≤ N := by rw [he1] at hjN1; simpa using hjN1
            have hsp := splice_bufK (N := N) hft2 (by rw [he1, hj]; simpa using hj1)
            have hset := splice_one (bufK s N k) j (.int .u8 (c.toNat : Int)) (by unfold bufK; rw [List.length_append, Lib.byteCells_length, List.length_replicate, hj]; omega)
            rw [hj, he1] at hsp
            have hsp2 : (bufK s N k).set j (.int .u8 (c.toNat : Int)) = bufK s N (k + 1) := by rw [hset]; exact hsp
            have hcur : (bufK s N k)[j]? = some (.int .u8 0) := by
              unfold bufK
              rw [List.getElem?_append_right (by rw [Lib.byteCells_length, hj]; exact Nat.le_refl _), Lib.byteCells_length, hj, Nat.sub_self, List.getElem?_replicate, if_pos (by omega)]
            have u0 : wr.cell? ⟨w.heap.size, j, none⟩ = some (.int .u8 0) := by
              rw [cell_of hq]
              simpa using hcur
            have z0 := frozen_of hq j
            have hq2 := heap_setCell hq j (.int .u8 (c.toNat : Int))
            rw [List.setIfInBounds_toArray, hsp2] at hq2
            have hb2 : Below w.heap.size w (wr.setCell ⟨w.heap.size, j, none⟩ (.int .u8 (c.toNat : Int))) := hbel.setCell (Nat.le_refl _) _
            have hft4 : (flatK s (k + 1)).length = j + 1 := by rw [hft3, he1]; rfl
            have HS := Lib.hid (And.intro hq2 (And.intro hb2 hft4))
            clear hq2 hb2 hft4 hsp hsp2 hset hcur hq hbel hft hft2 hft3 hcell hcl he1 hqc hjN hjN1
            have g4 : (0 : Int) ≤ (j : Int) ∧ (j : Int) < (N : Int) := by omega
            have b1 : j + 1 ≤ 100000 := by omega
            have hwk : True → wrap64 ((k : Int) + 1) = (k : Int) + 1 := fun _ => wrap_sum (x := k) (c := 1) hkk
            have hw2 : True → wrap64 ((j : Int) + 1) = (j : Int) + 1 := fun _ => wrap_sum (x := j) (c := 1) b1
            go_wp2_with fail
            clear hwk hw2
            have e5 : Value.int .i64 ((j : Int) + 1) = .int .i64 ((flatK s (k + 1)).length : Int) := by
              rw [HS.out.2.2]
              rfl
            exact ⟨⟨k + 1, rfl, hk2, e5, HS.out.1, HS.out.2.1⟩, by simp [intOf]; omega⟩
        · obtain rfl : k = s.size := by omega
          have g1 : ¬ (s.size : Int) < (s.size : Int) := by omega
          have hfull : flatK s s.size = s.data.toList.flatMap esc := by
            unfold flatK
            rw [List.take_of_length_le (by omega)]
          have hcv := run_convert_bytes_back wr 140 9 5 ⟨w.heap.size, 0, none⟩ N (s.data.toList.flatMap esc) Tryz.underlying140 Tryz.underlying5 Tryz.underlying9 (by
            intro j hj
            rw [add_at', cell_of hq]
            unfold bufK
            rw [hfull]
            have hj2 : j < (Lib.byteCells (s.data.toList.flatMap esc)).length := by rw [Lib.byteCells_length]; exact hj
            simp only [List.getElem?_toArray]
            rw [List.getElem?_append_left hj2]
            unfold Lib.byteCells
            rw [List.getElem?_map, List.getElem?_eq_getElem hj]
            rfl)
          rw [HNF.out] at hcv
          have HF := Lib.hid hFr
          clear hq hfull hFr
          go_wp2_with fail
          go_ret
          exact ⟨rfl, HF.out⟩
end Go.Proofs.YtdhmloejgoacaaaGreatDoor
namespace Go.Proofs.YtdhmloejgoacaaaGreatDoor
open Go.RowKit Go.Bl Go.Lq

theorem wrap_big {c : Nat} (h : c ≤ 4000000000000000) : wrap64 (c : Int) = (c : Int) := by unfold wrap64; omega
def SMRel (w : World) (l1 l2 : List Mt) (iv : Value) (wr : World) : Prop :=
  ∃ k n, iv = .int .i64 ((k : Nat) : Int) ∧ k ≤ l1.length ∧ wr = w.drewN n ∧ l1.take k = l2.take k
theorem mt_neq (x y : Mt) (w : World) : (binOp .neq 74 (.agg #[.int .i64 x.op, .string ⟨x.key.toArray⟩, .string ⟨x.val.toArray⟩]) (.agg #[.int .i64 y.op, .string ⟨y.key.toArray⟩, .string ⟨y.val.toArray⟩])).run Tryz.prog w = .ok (.bool (!decide (x = y))) w := by
  rw [neq56]
  congr 3
  obtain ⟨a, b, c⟩ := x
  obtain ⟨d, e, f⟩ := y
  simp only [ByteArray.toList_eq]
  rw [Bool.eq_iff_iff]
  simp
set_option maxRecDepth 100000 in
set_option maxHeartbeats 400000 in
theorem sameMatch_any (l1 l2 : List Mt) (v1 v2 : Value) (w : World) (h1 : Mts w v1 l1) (h2 : Mts w v2 l2) (hs : l1.length ≤ 2000000) :
    Calls Tryz.prog 47 #[v1, v2] w fun e w' => e = .returned (.bool (decide (l1 = l2))) ∧ Fr [] w w' := by
  obtain ⟨A1, p1, rfl, hl1, hx1⟩ := h1
  obtain ⟨A2, p2, rfl, hl2, hx2⟩ := h2
  have HX1 := Lib.hid hx1
  have HX2 := Lib.hid hx2
  clear hx1 hx2
  by_cases hne : l1.length = l2.length
  · obtain ⟨ans, hans⟩ : ∃ ans, decide (l1 = l2) = ans := ⟨_, rfl⟩
    rw [hans]
    have HANS := Lib.hid hans
    have q1 : ((l1.length : Int) == (l2.length : Int)) = true := by rw [hne]; simp
    have HNE := Lib.hid hne
    clear hans
    rw [← hne]
    clear hne q1
    go_enter Tryz.func47, Tryz.ntmps47
    go_wp2_with fail
    go_loopw [5] (fun iv wr => SMRel w l1 l2 iv wr) (fun iv _ => l1.length - (intOf iv).toNat)
    case atStart => exact ⟨0, 0, rfl, by omega, rfl, rfl⟩
    case round =>
      obtain ⟨k, n, rfl, hk, rfl, htk⟩ := hrel
      by_cases hk2 : k < l1.length
      · have hk3 : k < l2.length := by rw [← HNE.out]; exact hk2
        obtain ⟨a1, rfl, c0, c1, c2⟩ := HX1.out k hk2
        obtain ⟨a2, rfl, d0, d1, d2⟩ := HX2.out k hk3
        have hsp := World.cell?_spot c0
        have hsp2 := World.cell?_spot d0
        obtain ⟨x, hx⟩ : ∃ x, l1[k] = x := ⟨_, rfl⟩
        obtain ⟨y, hy⟩ : ∃ y, l2[k] = y := ⟨_, rfl⟩
        rw [hx] at c0 c1 c2
        rw [hy] at d0 d1 d2
        have g1 : (k : Int) < (l1.length : Int) := by omega
        have g2 : (0 : Int) ≤ (k : Int) ∧ (k : Int) < (l1.length : Int) := by omega
        have hk1 : k + 1 ≤ 2000001 := by omega
        have HT := Lib.hid (And.intro htk (And.intro hx hy))
        clear htk hx hy
        have hnq := mt_neq x y
        obtain ⟨bb, hbb⟩ : ∃ bb, decide (x = y) = bb := ⟨_, rfl⟩
        rw [hbb] at hnq
        have HBB := Lib.hid hbb
        clear hbb
        have hwk : True → wrap64 ((k : Int) + 1) = (k : Int) + 1 := fun _ => wrap_big (c := k + 1) (by omega)
        go_wp2_with fail
        go_quiet (fail)
        cases bb with
        | false =>
          go_wp2_with fail
          go_ret
          refine ⟨?_, (((Fr.refl _ _).drewN _).drewN _)⟩
          have hxy : x ≠ y := of_decide_eq_false HBB.out
          rw [← HANS.out, decide_eq_false (fun e => by subst e; exact hxy (by rw [← HT.out.2.1, ← HT.out.2.2]))]
          rfl
        | true =>
          have hxy : x = y := of_decide_eq_true HBB.out
          have HXY := Lib.hid hxy
          clear hxy
          go_wp2_with fail
          refine ⟨⟨k + 1, _, rfl, hk2, rfl, ?_⟩, by simp [intOf]; omega⟩
          rw [List.take_add_one, List.take_add_one, List.getElem?_eq_getElem hk2, List.getElem?_eq_getElem hk3, HT.out.1, HT.out.2.1, HT.out.2.2, HXY.out]
      · obtain rfl : k = l1.length := by omega
        have g1 : ¬ (l1.length : Int) < (l1.length : Int) := by omega
        rw [List.take_of_length_le (Nat.le_refl _), HNE.out, List.take_of_length_le (Nat.le_refl _)] at htk
        have HT := Lib.hid htk
        clear htk
        go_wp2_with fail
        go_ret
        refine ⟨?_, (Fr.refl _ _).drewN _⟩
        rw [← HANS.out, decide_eq_true HT.out]
        rfl
  · rw [decide_eq_false (fun e => hne (by rw [e]))]
    have q1 : ((l1.length : Int) == (l2.length : Int)) = false := beq_eq_false_iff_ne.2 (by omega)
    go_enter Tryz.func47, Tryz.ntmps47
    go_wp2
    go_ret
    exact ⟨rfl, Fr.refl _ _⟩
end Go.Proofs.YtdhmloejgoacaaaGreatDoor
namespace Go.Proofs.YtdhmloejgoacaaaGreatDoor
open Go.RowKit Go.Bl Go.Lq

def sameQ (a b : Qy) : Bool := decide (a.mat = b.mat) && (decide (a.level = b.level) && (decide (a.tests = b.tests) && decide (a.limit = b.limit)))
theorem sameQ_refl (a : Qy) : sameQ a a = true := by simp [sameQ]
set_option maxRecDepth 100000 in
set_option maxHeartbeats 800000 in
theorem sameR_any (p q : Qy) (v1 v2 : Value) (w : World) (h1 : QyV w v1 p) (h2 : QyV w v2 q) (hl1 : p.mat.length ≤ 2000000) (hl2 : p.tests.length ≤ 2000000) :
    Calls Tryz.prog 11 #[v1, v2] w fun e w' => e = .returned (.bool (sameQ p q)) ∧ Fr [] w w' := by
  obtain ⟨a2, a4, rfl, m2, m4⟩ := h1
  obtain ⟨b2, b4, rfl, n2, n4⟩ := h2
  obtain ⟨WA, hWA⟩ : ∃ WA, (w.alloc (.cells #[a2, .int .i64 p.level, a4, .int .i64 p.limit] 24)).alloc (.cells #[b2, .int .i64 q.level, b4, .int .i64 q.limit] 24) = WA := ⟨_, rfl⟩
  have hFA : Fr [] w WA := by rw [← hWA]; exact ((Fr.refl _ _).alloc _).alloc _
  have hB0 : WA.heap[w.heap.size]? = some (.cells #[a2, .int .i64 p.level, a4, .int .i64 p.limit] 24 (0, 0)) := by rw [← hWA]; exact Go.Bl.heap_alloc_old (heap_alloc w _) _
  have hB1 : WA.heap[w.heap.size + 1]? = some (.cells #[b2, .int .i64 q.level, b4, .int .i64 q.limit] 24 (0, 0)) := by
    rw [← hWA]
    have := heap_alloc (w.alloc (.cells #[a2, .int .i64 p.level, a4, .int .i64 p.limit] 24)) (.cells #[b2, .int .i64 q.level, b4, .int .i64 q.limit] 24)
    rw [size_alloc'] at this
    exact this
  have x0 := cell_of hB0 0
  have y0 := cell_of hB1 0
  simp only [List.getElem?_toArray, List.getElem?_cons_zero] at x0 y0
  have hs1 := sameMatch_any p.mat q.mat a2 b2 WA (m2.fr hFA) (n2.fr hFA) hl1
  unfold sameQ
  obtain ⟨c1, hc1⟩ : ∃ c1, decide (p.mat = q.mat) = c1 := ⟨_, rfl⟩
  obtain ⟨c3, hc3⟩ : ∃ c3, decide (p.tests = q.tests) = c3 := ⟨_, rfl⟩
  obtain ⟨c2, hc2⟩ : ∃ c2, decide (p.level = q.level) = c2 := ⟨_, rfl⟩
  obtain ⟨c4, hc4⟩ : ∃ c4, decide (p.limit = q.limit) = c4 := ⟨_, rfl⟩
  have e2 : (p.level == q.level) = c2 := by rw [← hc2]; rfl
  have e4 : (p.limit == q.limit) = c4 := by rw [← hc4]; rfl
  rw [hc1] at hs1
  rw [hc1, hc2, hc3, hc4]
  have HH := Lib.hid (And.intro hFA (And.intro hB0 (And.intro hB1 (And.intro m4 (And.intro n4 hc3)))))
  clear hFA hB0 hB1 m2 m4 n2 n4 hc1 hc2 hc3 hc4
  go_enter Tryz.func11, Tryz.ntmps11
  go_wp2_with fail
  (try rw [hWA])
  go_wp2_with fail
  refine hs1.mono ?_
  rintro e w1 ⟨rfl, hF1⟩
  have hb0 := hF1.obj HH.out.2.1 (by simp)
  have hb1 := hF1.obj HH.out.2.2.1 (by simp)
  have k1 := cell_of hb0 1
  have k2 := cell_of hb0 2
  have k3 := cell_of hb0 3
  have l1 := cell_of hb1 1
  have l2 := cell_of hb1 2
  have l3 := cell_of hb1 3
  simp only [List.getElem?_toArray, List.getElem?_cons_zero, List.getElem?_cons_succ] at k1 k2 k3 l1 l2 l3
  have hs2 := sameMatch_any p.tests q.tests a4 b4 w1 ((HH.out.2.2.2.1.fr HH.out.1).fr hF1) ((HH.out.2.2.2.2.1.fr HH.out.1).fr hF1) hl2
  rw [HH.out.2.2.2.2.2] at hs2
  have HF1 := Lib.hid (And.intro (HH.out.1.trans hF1) (And.intro hb0 hb1))
  clear hF1 hb0 hb1 hs1 hWA
  cases c1 with
  | false =>
    go_wp2
    go_ret
    exact ⟨rfl, HF1.out.1⟩
  | true =>
    cases c2 with
    | false =>
      go_wp2
      go_ret
      exact ⟨rfl, HF1.out.1⟩
    | true =>
      go_wp2_with fail
      refine hs2.mono ?_
      rintro e w2 ⟨rfl, hF2⟩
      have hb0 := hF2.obj HF1.out.2.1 (by simp)
      have hb1 := hF2.obj HF1.out.2.2 (by simp)
      have u3 := cell_of hb0 3
      have v3 := cell_of hb1 3
      simp only [List.getElem?_toArray, List.getElem?_cons_zero, List.getElem?_cons_succ] at u3 v3
      have HF2 := Lib.hid (HF1.out.1.trans hF2)
      clear hF2 hb0 hb1 k1 k2 k3 l1 l2 l3
      cases c3 with
      | false =>
        go_wp2
        go_ret
        exact ⟨rfl, HF2.out⟩
      | true =>
        go_wp2
        go_ret
        exact ⟨by simp_all, HF2.out⟩
end Go.Proofs.YtdhmloejgoacaaaGreatDoor
namespace Go.Proofs.YtdhmloejgoacaaaGreatDoor
open Go.RowKit Go.Bl Go.Lq

set_option maxRecDepth 100000 in
set_option maxHeartbeats 400000 in
theorem equalM_any (l1 l2 : List Mt) (v1 v2 : Value) (w : World) (h1 : Mts w v1 l1) (h2 : Mts w v2 l2) (hs : l1.length ≤ 2000000) :
    Calls Tryz.prog 54 #[v1, v2] w fun e w' => e = .returned (.bool (decide (l1 = l2))) ∧ Fr [] w w' := by
  obtain ⟨A1, p1, rfl, hl1, hx1⟩ := h1
  obtain ⟨A2, p2, rfl, hl2, hx2⟩ := h2
  have HX1 := Lib.hid hx1
  have HX2 := Lib.hid hx2
  clear hx1 hx2
  by_cases hne : l1.length = l2.length
  · obtain ⟨ans, hans⟩ : ∃ ans, decide (l1 = l2) = ans := ⟨_, rfl⟩
    rw [hans]
    have HANS := Lib.hid hans
    have q1 : ((l1.length : Int) == (l2.length : Int)) = true := by rw [hne]; simp
    have HNE := Lib.hid hne
    clear hans
    rw [← hne]
    clear hne q1
    go_enter Tryz.func54, Tryz.ntmps54
    go_wp2_with fail
    go_loopw [13] (fun iv wr => SMRel w l1 l2 iv wr) (fun iv _ => l1.length - (intOf iv).toNat)
    case atStart => exact ⟨0, 0, rfl, by omega, rfl, rfl⟩
    case round =>
      obtain ⟨k, n, rfl, hk, rfl, htk⟩ := hrel
      by_cases hk2 : k < l1.length
      · have hk3 : k < l2.length := by rw [← HNE.out]; exact hk2
        obtain ⟨a1, rfl, c0, c1, c2⟩ := HX1.out k hk2
        obtain ⟨a2, rfl, d0, d1, d2⟩ := HX2.out k hk3
        have hsp := World.cell?_spot c0
        have hsp2 := World.cell?_spot d0
        obtain ⟨x, hx⟩ : ∃ x, l1[k] = x := ⟨_, rfl⟩
        obtain ⟨y, hy⟩ : ∃ y, l2[k] = y := ⟨_, rfl⟩
        rw [hx] at c0 c1 c2
        rw [hy] at d0 d1 d2
        have g1 : (k : Int) < (l1.length : Int) := by omega
        have g2 : (0 : Int) ≤ (k : Int) ∧ (k : Int) < (l1.length : Int) := by omega
        have hk1 : k + 1 ≤ 2000001 := by omega
        have HT := Lib.hid (And.intro htk (And.intro hx hy))
        clear htk hx hy
        have hnq := mt_neq x y
        obtain ⟨bb, hbb⟩ : ∃ bb, decide (x = y) = bb := ⟨_, rfl⟩
        rw [hbb] at hnq
        have HBB := Lib.hid hbb
        clear hbb
        have hwk : True → wrap64 ((k : Int) + 1) = (k : Int) + 1 := fun _ => wrap_big (c := k + 1) (by omega)
        go_wp2_with fail
        go_quiet (fail)
        cases bb with
        | false =>
          go_wp2_with fail
          go_ret
          refine ⟨?_, (((Fr.refl _ _).drewN _).drewN _)⟩
          have hxy : x ≠ y := of_decide_eq_false HBB.out
          rw [← HANS.out, decide_eq_false (fun e => by subst e; exact hxy (by rw [← HT.out.2.1, ← HT.out.2.2]))]
          rfl
        | true =>
          have hxy : x = y := of_decide_eq_true HBB.out
          have HXY := Lib.hid hxy
          clear hxy
          go_wp2_with fail
          refine ⟨⟨k + 1, _, rfl, hk2, rfl, ?_⟩, by simp [intOf]; omega⟩
          rw [List.take_add_one, List.take_add_one, List.getElem?_eq_getElem hk2, List.getElem?_eq_getElem hk3, HT.out.1, HT.out.2.1, HT.out.2.2, HXY.out]
      · obtain rfl : k = l1.length := by omega
        have g1 : ¬ (l1.length : Int) < (l1.length : Int) := by omega
        rw [List.take_of_length_le (Nat.le_refl _), HNE.out, List.take_of_length_le (Nat.le_refl _)] at htk
        have HT := Lib.hid htk
        clear htk
        go_wp2_with fail
        go_ret
        refine ⟨?_, (Fr.refl _ _).drewN _⟩
        rw [← HANS.out, decide_eq_true HT.out]
        rfl
  · rw [decide_eq_false (fun e => hne (by rw [e]))]
    have q1 : ((l1.length : Int) == (l2.length : Int)) = false := beq_eq_false_iff_ne.2 (by omega)
    go_enter Tryz.func54, Tryz.ntmps54
    go_wp2
    go_ret
    exact ⟨rfl, Fr.refl _ _⟩
set_option maxRecDepth 100000 in
set_option maxHeartbeats 800000 in
theorem sameE_any (p q : Qy) (v1 v2 : Value) (w : World) (h1 : QyV w v1 p) (h2 : QyV w v2 q) (hl1 : p.mat.length ≤ 2000000) (hl2 : p.tests.length ≤ 2000000) :
    Calls Tryz.prog 18 #[v1, v2] w fun e w' => e = .returned (.bool (sameQ p q)) ∧ Fr [] w w' := by
  obtain ⟨a2, a4, rfl, m2, m4⟩ := h1
  obtain ⟨b2, b4, rfl, n2, n4⟩ := h2
  obtain ⟨WA, hWA⟩ : ∃ WA, (w.alloc (.cells #[a2, .int .i64 p.level, a4, .int .i64 p.limit] 24)).alloc (.cells #[b2, .int .i64 q.level, b4, .int .i64 q.limit] 24) = WA := ⟨_, rfl⟩
  have hFA : Fr [] w WA := by rw [← hWA]; exact ((Fr.refl _ _).alloc _).alloc _
  have hB0 : WA.heap[w.heap.size]? = some (.cells #[a2, .int .i64 p.level, a4, .int .i64 p.limit] 24 (0, 0)) := by rw [← hWA]; exact Go.Bl.heap_alloc_old (heap_alloc w _) _
  have hB1 : WA.heap[w.heap.size + 1]? = some (.cells #[b2, .int .i64 q.level, b4, .int .i64 q.limit] 24 (0, 0)) := by
    rw [← hWA]
    have := heap_alloc (w.alloc (.cells #[a2, .int .i64 p.level, a4, .int .i64 p.limit] 24)) (.cells #[b2, .int .i64 q.level, b4, .int .i64 q.limit] 24)
    rw [size_alloc'] at this
    exact this
  have x0 := cell_of hB0 0
  have y0 := cell_of hB1 0
  simp only [List.getElem?_toArray, List.getElem?_cons_zero] at x0 y0
  have hs1 := equalM_any p.mat q.mat a2 b2 WA (m2.fr hFA) (n2.fr hFA) hl1
  unfold sameQ
  obtain ⟨c1, hc1⟩ : ∃ c1, decide (p.mat = q.mat) = c1 := ⟨_, rfl⟩
  obtain ⟨c3, hc3⟩ : ∃ c3, decide (p.tests = q.tests) = c3 := ⟨_, rfl⟩
  obtain ⟨c2, hc2⟩ : ∃ c2, decide (p.level = q.level) = c2 := ⟨_, rfl⟩
  obtain ⟨c4, hc4⟩ : ∃ c4, decide (p.limit = q.limit) = c4 := ⟨_, rfl⟩
  have e2 : (p.level == q.level) = c2 := by rw [← hc2]; rfl
  have e4 : (p.limit == q.limit) = c4 := by rw [← hc4]; rfl
  rw [hc1] at hs1
  rw [hc1, hc2, hc3, hc4]
  have HH := Lib.hid (And.intro hFA (And.intro hB0 (And.intro hB1 (And.intro m4 (And.intro n4 hc3)))))
  clear hFA hB0 hB1 m2 m4 n2 n4 hc1 hc2 hc3 hc4
  go_enter Tryz.func18, Tryz.ntmps18
  go_wp2_with fail
  (try rw [hWA])
  go_wp2_with fail
  refine hs1.mono ?_
  rintro e w1 ⟨rfl, hF1⟩
  have hb0 := hF1.obj HH.out.2.1 (by simp)
  have hb1 := hF1.obj HH.out.2.2.1 (by simp)
  have k1 := cell_of hb0 1
  have k2 := cell_of hb0 2
  have k3 := cell_of hb0 3
  have l1 := cell_of hb1 1
  have l2 := cell_of hb1 2
  have l3 := cell_of hb1 3
  simp only [List.getElem?_toArray, List.getElem?_cons_zero, List.getElem?_cons_succ] at k1 k2 k3 l1 l2 l3
  have hs2 := equalM_any p.tests q.tests a4 b4 w1 ((HH.out.2.2.2.1.fr HH.out.1).fr hF1) ((HH.out.2.2.2.2.1.fr HH.out.1).fr hF1) hl2
  rw [HH.out.2.2.2.2.2] at hs2
  have HF1 := Lib.hid (And.intro (HH.out.1.trans hF1) (And.intro hb0 hb1))
  clear hF1 hb0 hb1 hs1 hWA
  cases c1 with
  | false =>
    go_wp2
    go_ret
    exact ⟨rfl, HF1.out.1⟩
  | true =>
    cases c2 with
    | false =>
      go_wp2
      go_ret
      exact ⟨rfl, HF1.out.1⟩
    | true =>
      go_wp2_with fail
      refine hs2.mono ?_
      rintro e w2 ⟨rfl, hF2⟩
      have hb0 := hF2.obj HF1.out.2.1 (by simp)
      have hb1 := hF2.obj HF1.out.2.2 (by simp)
      have u3 := cell_of hb0 3
      have v3 := cell_of hb1 3
      simp only [List.getElem?_toArray, List.getElem?_cons_zero, List.getElem?_cons_succ] at u3 v3
      have HF2 := Lib.hid (HF1.out.1.trans hF2)
      clear hF2 hb0 hb1 k1 k2 k3 l1 l2 l3
      cases c3 with
      | false =>
        go_wp2
        go_ret
        exact ⟨rfl, HF2.out⟩
      | true =>
        go_wp2
        go_ret
        exact ⟨by simp_all, HF2.out⟩
end Go.Proofs.YtdhmloejgoacaaaGreatDoor
namespace Go.Proofs.YtdhmloejgoacaaaGreatDoor
open Go.RowKit Go.Bl Go.Lq

theorem quoteP_bytes (s : ByteArray) : (ByteArray.mk #[34] ++ ⟨(s.data.toList.flatMap esc).toArray⟩ ++ ByteArray.mk #[34]) = ⟨(quoteP s.data.toList).toArray⟩ := by
  apply bs_ext
  simp [quoteP]
set_option maxRecDepth 100000 in
theorem quote_any (s : ByteArray) (hs : s.size ≤ 1024) (w : World) :
    Calls Tryz.prog 103 #[.string s] w fun e w' => e = .returned (.string ⟨(quoteP s.data.toList).toArray⟩) ∧ Fr [] w w' := by
  have hN := newReplacer_any w.heap.size (w.alloc (.cells sixStr.toArray 9)) (heap_alloc w _)
  go_enter Tryz.func103, Tryz.ntmps103
  go_wp2_with fail
  refine hN.mono ?_
  rintro e w1 ⟨R, rfl, hU, hF1, hR⟩
  rw [size_alloc'] at hR
  have hq := replace_any rpl_any R s hs w1 hU
  go_wp2_with fail
  refine hq.mono ?_
  rintro e w2 ⟨rfl, hF2⟩
  have hqb := quoteP_bytes s
  obtain ⟨Z, hZ⟩ : ∃ Z : ByteArray, ⟨(s.data.toList.flatMap esc).toArray⟩ = Z := ⟨_, rfl⟩
  have hZs : Z.size ≤ 3000 := by
    rw [← hZ]
    have h1 := flat_len s.data.toList
    have h2 : s.data.toList.countP isQ ≤ s.data.toList.length := List.countP_le_length
    have h3 := bytes_len s
    show (s.data.toList.flatMap esc).toArray.size ≤ 3000
    rw [List.size_toArray]
    omega
  have g1 : ¬ 9223372036854775807 < 1 + Z.size := by omega
  have g2 : ¬ 9223372036854775807 < 1 + Z.size + 1 := by omega
  rw [hZ] at hqb ⊢
  have HQ := Lib.hid hqb
  clear hqb hZ
  have HF : Hid (Fr [] w w2) := (((Fr.refl [] w).alloc _).trans hF1).new hF2 (by simp; omega)
  clear hF1 hF2 hU
  go_wp2_with fail
  go_ret
  refine ⟨?_, HF.out⟩
  rw [← HQ.out]
  rfl
end Go.Proofs.YtdhmloejgoacaaaGreatDoor
