/- The replacer is built: a table of 256 answers. -/
import Derived.Test.YtdhmloejgoacaaaGreatDoorLqRepl
import Derived.Test.YtdhmloejgoacaaaGreatDoorMw05
import Derived.Laws.Tables
import Derived.Deep.WholeRow
import Derived.Lib.ConvBytes
import Derived.Lib.AtoiErrMem
import Derived.Laws.IdiomStrings
set_option linter.unusedVariables false
set_option linter.unusedSimpArgs false
namespace Go.Proofs.YtdhmloejgoacaaaGreatDoor
open Go.RowKit Go.Bl Go.Lq

def tab0 (v : Value) : Array Value := (Array.replicate 256 (.slice none 0 0)).push v
set_option maxRecDepth 100000 in
theorem built0 (A : Option Addr) (n c : Nat) (w : World) : (Instr.build 242 #[(1, .slice A n c)]).run Tryz.prog w = .ok (.agg (tab0 (.slice A n c))) w := run_build w 242 _ _ (by kernel_rfl)
theorem made3 (w : World) : (Instr.makeSlice 107 (.int .i64 0) (.int .i64 3)).run Tryz.prog w = .ok (.slice (some ⟨w.heap.size, 0, none⟩) 0 3) (w.alloc (.cells #[.string ⟨#[]⟩, .string ⟨#[]⟩, .string ⟨#[]⟩] 9)) := by
  obtain ⟨i0, hi0, hz0, hz1, hz2⟩ := info_parts infoStr
  have := run_makeSlice w 107 9 i0 (.string ⟨#[]⟩) Tryz.underlying107 hi0 hz0 .i64 .i64 0 3 (by omega) (by omega) (by rw [hz1]; decide) (by rw [hz2]; decide) (by omega)
  rw [hz1, show madeCells (Value.string ⟨#[]⟩).cells (Int.toNat 3 * 1) = #[.string ⟨#[]⟩, .string ⟨#[]⟩, .string ⟨#[]⟩] by kernel_rfl] at this
  exact this
theorem tab0_size (v : Value) : (tab0 v).size = 257 := by simp [tab0]
theorem tab0_all (A : Option Addr) (n c : Nat) : (tab0 (.slice A n c)).all (·.oneCell') = true := by
  rw [Array.all_eq_true]
  intro i hi
  simp [tab0, Array.getElem_push]
  split <;> rfl
theorem push_set (n : Nat) (x y v : Value) : ((Array.replicate n x).push y).toList.set n v = ((Array.replicate n x).push v).toList := by
  rw [Array.toList_push, Array.toList_push, Array.toList_replicate, List.set_append_right _ _ (by simp)]
  simp
theorem tab0_set (v : Value) : (tab0 (.slice none 0 0)).toList.set 256 v = (tab0 v).toList := push_set 256 _ _ _
theorem stored0 (A : Option Addr) (n c : Nat) (w : World) (H : Nat) (hH : w.heap.size = H) : (storeCells ⟨H, 0, none⟩ ((tab0 (.slice none 0 0)).toList.set 256 (.slice A n c))).run Tryz.prog (w.alloc (.cells (tab0 (.slice none 0 0)) 242)) = .ok () (w.alloc (.cells (tab0 (.slice A n c)) 242)) := by
  subst hH
  rw [tab0_set]
  exact run_storeCells_new w 242 _ _ (by rw [tab0_size]; kernel_rfl) (by rw [tab0_size, tab0_size]) (tab0_all A n c)
theorem info176 : (Tryz.prog.info? 242).map (fun i => (i.zero, i.size)) = some (some (.agg (tab0 (.slice none 0 0))), 257) := by kernel_rfl
theorem six_cells {w : World} {O cap : Nat} (h : w.ownsRow 0 9 1 (.slice (some ⟨O, 0, none⟩) 6 cap) 6 sixStr) :
    w.cell? ⟨O, 0, none⟩ = some (.string ⟨#[34]⟩) ∧ w.cell? ⟨O, 1, none⟩ = some (.string ⟨#[92, 34]⟩) ∧ w.cell? ⟨O, 2, none⟩ = some (.string ⟨#[92]⟩) ∧ w.cell? ⟨O, 3, none⟩ = some (.string ⟨#[92, 92]⟩) ∧ w.cell? ⟨O, 4, none⟩ = some (.string ⟨#[10]⟩) ∧ w.cell? ⟨O, 5, none⟩ = some (.string ⟨#[92, 110]⟩) :=
  ⟨h.cellAt 0 (by omega), h.cellAt 1 (by omega), h.cellAt 2 (by omega), h.cellAt 3 (by omega), h.cellAt 4 (by omega), h.cellAt 5 (by omega)⟩

theorem eql_nil (w : World) : (binOp .eql 140 (.slice none 0 0) (.slice none 0 0)).run Tryz.prog w = .ok (.bool true) w := by kernel_rfl
theorem neq_nil (w : World) : (binOp .neq 140 (.slice none 0 0) (.slice none 0 0)).run Tryz.prog w = .ok (.bool false) w := by kernel_rfl
theorem neq_some (a : Addr) (n c : Nat) (w : World) : (binOp .neq 140 (.slice (some a) n c) (.slice none 0 0)).run Tryz.prog w = .ok (.bool true) w := by kernel_rfl
/-- The signs that are quoted, and what is written of each. -/
def sgO : Nat → Nat | 0 => 10 | 1 => 92 | _ => 34
def sgR : Nat → List UInt8 | 0 => [92, 110] | 1 => [92, 92] | _ => [92, 34]
def strs (k : Nat) : List Value := [.string ⟨#[10]⟩, .string ⟨#[92]⟩, .string ⟨#[34]⟩].take k
def Rep (w : World) (T : Array Value) (RB base M k : Nat) : Prop :=
  ∃ K cap, T[sgO k]? = some (.slice (some ⟨K, 0, none⟩) 2 cap) ∧ base ≤ K ∧ K < w.heap.size ∧ K ≠ RB ∧ K ≠ M ∧ ∀ j u, (sgR k)[j]? = some u → w.cell? ⟨K, j, none⟩ = some (.int .u8 (u.toNat : Int))
structure Bld (w0 wr : World) (RB k : Nat) : Prop where
  ex : ∃ T M cap, wr.heap[RB]? = some (.cells T 242 (0, 0)) ∧ T.size = 257 ∧ T[256]? = some (.slice (some ⟨M, 0, none⟩) k cap) ∧ wr.ownsRow w0.heap.size 9 1 (.slice (some ⟨M, 0, none⟩) k cap) k (strs k) ∧
    (∀ i, i < 256 → (∀ j, j < k → i ≠ sgO j) → T[i]? = some (.slice none 0 0)) ∧ (∀ j, j < k → Rep wr T RB w0.heap.size M j) ∧ M ≠ RB
  fr : Fr [] w0 wr
  base : w0.heap.size ≤ RB
theorem sgO_lt (k : Nat) : sgO k < 256 := by unfold sgO; split <;> omega
theorem sgR_len (k : Nat) : (sgR k).length = 2 := by unfold sgR; split <;> rfl
theorem sgO_ne {j k : Nat} (h : j < k) (hk : k < 3) : sgO k ≠ sgO j := by
  have : (j = 0 ∧ k = 1) ∨ (j = 0 ∧ k = 2) ∨ (j = 1 ∧ k = 2) := by omega
  rcases this with ⟨rfl, rfl⟩ | ⟨rfl, rfl⟩ | ⟨rfl, rfl⟩ <;> decide
theorem strs_succ {k : Nat} (hk : k < 3) : strs (k + 1) = strs k ++ [.string ⟨#[UInt8.ofNat (sgO k)]⟩] := by
  have : k = 0 ∨ k = 1 ∨ k = 2 := by omega
  rcases this with rfl | rfl | rfl <;> rfl
theorem add_at' (g j : Nat) : (⟨g, 0, none⟩ : Addr).add j = ⟨g, j, none⟩ := by unfold Addr.add; split <;> simp_all
theorem news1 (wr : World) (x y : Value) : ∀ j u, [y][j]? = some u → ((wr.alloc (.cells #[x] 5)).alloc (.cells #[y] 9)).cell? ((⟨wr.heap.size + 1, 0, none⟩ : Addr).add j) = some u := by
  intro j u hj
  have h := heap_alloc (wr.alloc (.cells #[x] 5)) (.cells #[y] 9)
  rw [size_alloc'] at h
  rw [add_at', cell_of h]
  simpa using hj
theorem Bld.step {w0 wr w1 : World} {RB k : Nat} (h : Bld w0 wr RB k) (T : Array Value) (M cap : Nat) (hTs : T.size = 257)
    (hnil : ∀ i, i < 256 → (∀ j, j < k → i ≠ sgO j) → T[i]? = some (.slice none 0 0)) (hrep : ∀ j, j < k → Rep wr T RB w0.heap.size M j) (hrow : wr.ownsRow w0.heap.size 9 1 (.slice (some ⟨M, 0, none⟩) k cap) k (strs k)) (hMR : M ≠ RB)
    (hF : Fr [M] wr w1) (hT : w1.heap[RB]? = some (.cells T 242 (0, 0))) {M' cap' : Nat} (hown : w1.ownsRow w0.heap.size 9 1 (.slice (some ⟨M', 0, none⟩) (k + 1) cap') (k + 1) (strs k ++ [.string ⟨#[UInt8.ofNat (sgO k)]⟩]))
    (hM' : M' = M ∨ wr.heap.size ≤ M') (hlt : M' < w1.heap.size) (kk : Nat) (hkk : kk = k) (hk : k < 3) :
    Bld w0 ((Lib.bytesWorld (w1.setCell ⟨RB, 256, none⟩ (.slice (some ⟨M', 0, none⟩) (k + 1) cap')) 5 ⟨(sgR k).toArray⟩).setCell ⟨RB, sgO k, none⟩ (.slice (some ⟨(w1.setCell ⟨RB, 256, none⟩ (.slice (some ⟨M', 0, none⟩) (k + 1) cap')).heap.size, 0, none⟩) 2 (grownCap (w1.setCell ⟨RB, 256, none⟩ (.slice (some ⟨M', 0, none⟩) (k + 1) cap')) 2 0 5))) RB (k + 1) := by
  have hRB : RB < wr.heap.size := by
    obtain ⟨_, _, _, h1, _⟩ := h.ex
    exact lt_of_obj h1
  have hMl : w0.heap.size ≤ M ∧ M < wr.heap.size := row_old hrow (k := M) rfl
  have hne : M' ≠ RB := by rcases hM' with rfl | h1; exact hMR; omega
  have hRB1 := lt_of_obj hT
  have hq2 := heap_setCell hT 256 (.slice (some ⟨M', 0, none⟩) (k + 1) cap')
  obtain ⟨W2, hW2⟩ : ∃ W2, w1.setCell ⟨RB, 256, none⟩ (.slice (some ⟨M', 0, none⟩) (k + 1) cap') = W2 := ⟨_, rfl⟩
  have hF2 : Fr [RB] w1 W2 := by rw [← hW2]; exact (Fr.refl _ _).setCell1 256 _
  have hs2 : W2.heap.size = w1.heap.size := by rw [← hW2]; simp [World.setCell]
  rw [hW2] at hq2 ⊢
  have hF3 : Fr [] W2 (Lib.bytesWorld W2 5 ⟨(sgR k).toArray⟩) := ⟨(Lib.bytesWorld_below W2 5 _).os, (Lib.bytesWorld_below W2 5 _).tape, (Lib.bytesWorld_below W2 5 _).output, (Lib.bytesWorld_below W2 5 _).size, fun i hi _ => (Lib.bytesWorld_below W2 5 _).block i hi⟩
  have hq3 := hF3.obj hq2 (by simp)
  have hs3 : (Lib.bytesWorld W2 5 ⟨(sgR k).toArray⟩).heap.size = W2.heap.size + 1 := Lib.bytesWorld_size _ _ _
  have hc3 : ∀ j u, (sgR k)[j]? = some u → (Lib.bytesWorld W2 5 ⟨(sgR k).toArray⟩).cell? ⟨W2.heap.size, j, none⟩ = some (.int .u8 (u.toNat : Int)) := by
    intro j u hu
    have hj : j < (sgR k).length := (List.getElem?_eq_some_iff.1 hu).1
    rw [Lib.bytesWorld_cell W2 5 ⟨(sgR k).toArray⟩ j (by simpa [ByteArray.size] using hj)]
    simp [List.getD, hu]
  obtain ⟨W3, hW3⟩ : ∃ W3, Lib.bytesWorld W2 5 ⟨(sgR k).toArray⟩ = W3 := ⟨_, rfl⟩
  rw [hW3] at hF3 hq3 hs3 hc3 ⊢
  have hF4 : Fr [RB] W3 (W3.setCell ⟨RB, sgO k, none⟩ (.slice (some ⟨W2.heap.size, 0, none⟩) 2 (grownCap W2 2 0 5))) := (Fr.refl _ _).setCell1 _ _
  have hq4 := heap_setCell hq3 (sgO k) (.slice (some ⟨W2.heap.size, 0, none⟩) 2 (grownCap W2 2 0 5))
  have hso := sgO_lt k
  have hFs : Fr [RB] W2 (W3.setCell ⟨RB, sgO k, none⟩ (.slice (some ⟨W2.heap.size, 0, none⟩) 2 (grownCap W2 2 0 5))) := (hF3.mono (by simp)).trans hF4
  have hRBb := h.base
  have hF04 := ((h.fr.new hF (by simp; exact hMl.1)).new hF2 (by simp; exact hRBb)).new hFs (by simp; exact hRBb)
  have hF24 : Fr [RB] w1 (W3.setCell ⟨RB, sgO k, none⟩ (.slice (some ⟨W2.heap.size, 0, none⟩) 2 (grownCap W2 2 0 5))) := hF2.trans hFs
  have hsz := h.fr.size
  refine ⟨⟨_, M', cap', hq4, by simp [hTs], ?_, ?_, ?_, ?_, hne⟩, hF04, hRBb⟩
  · rw [Array.getElem?_setIfInBounds_ne (by omega), Array.getElem?_setIfInBounds_self, if_pos (by omega)]
  · rw [strs_succ hk]
    exact row_fr hown hF24 (fun i hi => by
      obtain rfl : M' = i := by simpa [Value.ownBlock] using hi
      simpa using hne)
  · intro i hi hj
    rw [Array.getElem?_setIfInBounds_ne (Ne.symm (hj k (by omega))), Array.getElem?_setIfInBounds_ne (by omega)]
    exact hnil i hi (fun j hjk => hj j (by omega))
  · intro j hj
    by_cases e : j = k
    · subst e
      refine ⟨W2.heap.size, grownCap W2 2 0 5, ?_, by omega, by simp [World.setCell]; omega, by omega, by omega, fun i u hu => ?_⟩
      · rw [Array.getElem?_setIfInBounds_self, if_pos (by simp [hTs]; omega)]
      · exact cell_frS hF4 (hc3 i u hu) (by simp; omega)
    · obtain ⟨K, c, k1, k2, k3, k4, k5, k6⟩ := hrep j (by omega)
      have hs1 := hF.size
      refine ⟨K, c, ?_, k2, by have := hFs.size; omega, k4, ?_, fun i u hu => ?_⟩
      · rw [Array.getElem?_setIfInBounds_ne (sgO_ne (by omega) hk), Array.getElem?_setIfInBounds_ne (by have := sgO_lt j; omega)]
        exact k1
      · rcases hM' with rfl | h1
        · exact k5
        · omega
      · exact cell_frS hF24 (cell_frS hF (k6 i u hu) (by simpa using k5)) (by simpa using k4)
theorem Bld.start (w : World) : Bld w ((w.alloc (.cells #[.string ⟨#[]⟩, .string ⟨#[]⟩, .string ⟨#[]⟩] 9)).alloc (.cells (tab0 (.slice (some ⟨w.heap.size, 0, none⟩) 0 3)) 242)) (w.heap.size + 1) 0 := by
  have h := heap_alloc (w.alloc (.cells #[.string ⟨#[]⟩, .string ⟨#[]⟩, .string ⟨#[]⟩] 9)) (.cells (tab0 (.slice (some ⟨w.heap.size, 0, none⟩) 0 3)) 242)
  rw [size_alloc'] at h
  refine ⟨⟨tab0 (.slice (some ⟨w.heap.size, 0, none⟩) 0 3), w.heap.size, 3, h, tab0_size _, ?_, ?_, ?_, fun j hj => absurd hj (by omega), by omega⟩, ((Fr.refl _ _).alloc _).alloc _, by omega⟩
  · unfold tab0
    rw [Array.getElem?_push, if_pos (by rw [Array.size_replicate])]
  · refine ⟨rfl, .inr ⟨_, _, _, rfl, Nat.le_refl _, Go.Bl.heap_alloc_old (heap_alloc w _) _, by omega, by unfold maxLen; omega, by simp, rfl⟩⟩
  · intro i hi _
    unfold tab0
    rw [Array.getElem?_push, if_neg (by rw [Array.size_replicate]; omega), Array.getElem?_replicate, if_pos hi]
def bAt : Nat → Int | 0 => 4 | 1 => 2 | 2 => 0 | _ => -2
def BRel (w0 : World) (RB : Nat) (iv : Value) (wx : World) : Prop := ∃ k, iv = .int .i64 (bAt k) ∧ k ≤ 3 ∧ Bld w0 wx RB k
set_option maxRecDepth 100000 in
set_option maxHeartbeats 1600000 in
theorem build_any (R O cap : Nat) (d s : Int) (x2 x3 : Value) (w : World) (hb : w.heap[R]? = some (rcells d s x2 x3 (.slice (some ⟨O, 0, none⟩) 6 cap))) (ho : w.ownsRow 0 9 1 (.slice (some ⟨O, 0, none⟩) 6 cap) 6 sixStr) :
    Calls Tryz.prog 161 #[.pointer (some ⟨R, 0, none⟩)] w fun e w' => ∃ RB, e = .returned (.iface 243 (.pointer (some ⟨RB, 0, none⟩))) ∧ Bld w w' RB 3 := by
  have c4 := cell_of hb 4
  simp only [List.getElem?_toArray, List.getElem?_cons_zero, List.getElem?_cons_succ] at c4
  obtain ⟨s0, s1, s2, s3, s4, s5⟩ := six_cells ho
  have hz := (zero_of_info info176).1
  have hbl := built0
  have hmk := made3
  have hst := stored0
  have hts := tab0_size
  obtain ⟨i0, hi0, hz0, hz1, hz2⟩ := info_parts infoStr
  go_enter Tryz.func161, Tryz.ntmps161
  go_wp2_with fail
  go_loopw [4, 5] (fun bv iv wr => w = wr ∧ ((bv = .bool true ∧ iv = .int .i64 0) ∨ (bv = .bool false ∧ iv = .int .i64 2) ∨ (bv = .bool false ∧ iv = .int .i64 4) ∨ (bv = .bool false ∧ iv = .int .i64 6))) (fun _ iv _ => 6 - (intOf iv).toNat)
  case atStart => exact ⟨rfl, .inl ⟨rfl, rfl⟩⟩
  case round =>
    obtain ⟨rfl, hr⟩ := hrel
    rcases hr with ⟨rfl, rfl⟩ | ⟨rfl, rfl⟩ | ⟨rfl, rfl⟩ | ⟨rfl, rfl⟩
    · go_wp2_with fail
      exact ⟨⟨trivial, .inr (.inl ⟨rfl, rfl⟩)⟩, by simp [intOf]⟩
    · go_wp2_with fail
      exact ⟨⟨trivial, .inr (.inr (.inl ⟨rfl, rfl⟩))⟩, by simp [intOf]⟩
    · go_wp2_with fail
      exact ⟨⟨trivial, .inr (.inr (.inr ⟨rfl, rfl⟩))⟩, by simp [intOf]⟩
    · go_wp2_with fail
      have H0 := Bld.start w
      obtain ⟨RB, hRB⟩ : ∃ RB, w.heap.size + 1 = RB := ⟨_, rfl⟩
      rw [hRB] at H0
      (try simp only [hRB])
      clear hb ho c4 hmk hst hz hbl hts
      go_loopw [12] (fun iv wx => BRel w RB iv wx) (fun iv _ => (intOf iv + 2).toNat)
      case atStart => exact ⟨0, rfl, by omega, H0⟩
      case round =>
        clear H0
        have heq := eql_nil
        obtain ⟨k, hk, hk3, hB⟩ := hrel
        rcases (by omega : k = 0 ∨ k = 1 ∨ k = 2 ∨ k = 3) with rfl | rfl | rfl | rfl
        all_goals (simp only [bAt] at hk; subst hk)
        · obtain ⟨T, M, cp, hT, hTs, hTM, hrow, hnil, hrep, hMR⟩ := hB.ex
          have HB := Lib.hid hB
          have u0 := cell_of hT 10
          have u1 := cell_of hT 256
          rw [hnil 10 (by omega) (by intro j hj; omega)] at u0
          rw [hTM] at u1
          have e4 := cell_frS HB.out.fr s4 (by simp)
          have e5 := cell_frS HB.out.fr s5 (by simp)
          have hbk : (convert 140 9 (.slice (some ⟨wr.heap.size, 0, none⟩) 1 1)).run Tryz.prog (wr.alloc (.cells #[.int .u8 10] 5)) = .ok (.string ⟨#[10]⟩) (wr.alloc (.cells #[.int .u8 10] 5)) :=
            run_convert_bytes_back (wr.alloc (.cells #[.int .u8 10] 5)) 140 9 5 ⟨wr.heap.size, 0, none⟩ 1 [10] Tryz.underlying140 Tryz.underlying5 Tryz.underlying9 (by
              intro j hj
              obtain rfl : j = 0 := by simpa using hj
              rw [add_at', cell_of (heap_alloc wr _)]
              rfl)
          have hix : ∀ h, (ByteArray.mk #[10])[0]'h = 10 := fun _ => rfl
          have HT := Lib.hid hT
          have HRow := Lib.hid hrow
          have hRl := lt_of_obj hT
          have hRl0 := HB.out.fr.size
          have hRb := HB.out.base
          clear hT hrow hB
          go_wp2_with (at_builtin; refine wpList_append_lies _ rfl (.tmp 119) (.tmp 123) 107 rfl w.heap.size 9 i0 (.string ⟨#[]⟩) 1 16 Tryz.underlying107 hi0 hz0 hz1 hz2 rfl (by omega) (.slice (some ⟨M, 0, none⟩) 0 cp) 0 (strs 0) (by simp [Act.eval]) ((HRow.out.alloc _).alloc _) ⟨wr.heap.size + 1, 0, none⟩ 1 1 [.string ⟨#[10]⟩] (by simp [Act.eval]) rfl (news1 wr _ _) (by simp [Value.oneCell']) (by omega) (by unfold maxLen; omega) (by omega) (by simp; omega) (wr.heap.size + 2) (by simp) ?_; intro M' cp' w1 hown1 hgrow hat hlt; have hq1 := (fr_grown hgrow).obj (Go.Bl.heap_alloc_old (Go.Bl.heap_alloc_old HT.out _) _) (by simp [Value.ownBlock]; omega); have v1 := cell_of hq1 256; rw [hTM] at v1; have y1 := frozen_of hq1 256)
          have hF1 : Fr [M] wr w1 := ((((Fr.refl _ _).alloc _).alloc _).trans ((fr_grown hgrow).mono (by simp [Value.ownBlock])))
          have hM' : M' = M ∨ wr.heap.size ≤ M' := by
            rcases hat with hat | hat
            · left; simpa [Value.ownBlock] using hat.symm
            · right; omega
          have hst := HB.out.step T M cp hTs hnil hrep HRow.out hMR hF1 hq1 hown1 hM' hlt 0 rfl (by omega)
          obtain ⟨W2, hW2⟩ : ∃ W2, w1.setCell ⟨RB, 256, none⟩ (.slice (some ⟨M', 0, none⟩) (0 + 1) cp') = W2 := ⟨_, rfl⟩
          have hsz2 : W2.heap.size = w1.heap.size := by rw [← hW2]; simp [World.setCell]
          have hq2 := heap_setCell hq1 256 (.slice (some ⟨M', 0, none⟩) (0 + 1) cp')
          rw [hW2] at hst hq2
          (try simp only [Nat.zero_add, Nat.reduceAdd] at hW2)
          (try rw [hW2])
          have e5' : True := trivial
          have hcv := Lib.run_convert_string_bytes (P := Tryz.prog) W2 9 140 5 ⟨#[92, 110]⟩ Tryz.underlying9 Tryz.underlying140 Tryz.underlying5
          have hq3 := (Lib.bytesWorld_at_old W2 5 ⟨#[92, 110]⟩ RB (lt_of_obj hq2)).trans hq2
          obtain ⟨W3, hW3⟩ : ∃ W3, Lib.bytesWorld W2 5 ⟨#[92, 110]⟩ = W3 := ⟨_, rfl⟩
          have hst2 : Bld w (W3.setCell ⟨RB, 10, none⟩ (.slice (some ⟨W2.heap.size, 0, none⟩) 2 (grownCap W2 2 0 5))) RB (0 + 1) := by rw [← hW3]; exact hst
          rw [hW3] at hcv hq3
          rw [hsz2] at hst2
          have q3 := cell_of hq3 10
          have f3 := frozen_of hq3 10
          rw [show (T.setIfInBounds 256 (.slice (some ⟨M', 0, none⟩) (0 + 1) cp'))[10]? = some (.slice none 0 0) by rw [Array.getElem?_setIfInBounds_ne (by omega)]; exact hnil 10 (by omega) (by intro j hj; omega)] at q3
          have HST := Lib.hid hst2
          clear hst hst2 hq1 hq2 hq3 hnil hrep hown1 hgrow
          rw [hcv]
          go_wp2_with fail
          exact ⟨⟨0 + 1, rfl, by omega, HST.out⟩, by simp [intOf]⟩
        · obtain ⟨T, M, cp, hT, hTs, hTM, hrow, hnil, hrep, hMR⟩ := hB.ex
          have HB := Lib.hid hB
          have u0 := cell_of hT 92
          have u1 := cell_of hT 256
          rw [hnil 92 (by omega) (by intro j hj; obtain rfl : j = 0 := (by omega); decide)] at u0
          rw [hTM] at u1
          have e2 := cell_frS HB.out.fr s2 (by simp)
          have e3 := cell_frS HB.out.fr s3 (by simp)
          have hbk : (convert 140 9 (.slice (some ⟨wr.heap.size, 0, none⟩) 1 1)).run Tryz.prog (wr.alloc (.cells #[.int .u8 92] 5)) = .ok (.string ⟨#[92]⟩) (wr.alloc (.cells #[.int .u8 92] 5)) :=
            run_convert_bytes_back (wr.alloc (.cells #[.int .u8 92] 5)) 140 9 5 ⟨wr.heap.size, 0, none⟩ 1 [92] Tryz.underlying140 Tryz.underlying5 Tryz.underlying9 (by
              intro j hj
              obtain rfl : j = 0 := by simpa using hj
              rw [add_at', cell_of (heap_alloc wr _)]
              rfl)
          have hix : ∀ h, (ByteArray.mk #[92])[0]'h = 92 := fun _ => rfl
          have HT := Lib.hid hT
          have HRow := Lib.hid hrow
          have hRl := lt_of_obj hT
          have hRl0 := HB.out.fr.size
          have hRb := HB.out.base
          clear hT hrow hB
          go_wp2_with (at_builtin; refine wpList_append_lies _ rfl (.tmp 119) (.tmp 123) 107 rfl w.heap.size 9 i0 (.string ⟨#[]⟩) 1 16 Tryz.underlying107 hi0 hz0 hz1 hz2 rfl (by omega) (.slice (some ⟨M, 0, none⟩) 1 cp) 1 (strs 1) (by simp [Act.eval]) ((HRow.out.alloc _).alloc _) ⟨wr.heap.size + 1, 0, none⟩ 1 1 [.string ⟨#[92]⟩] (by simp [Act.eval]) rfl (news1 wr _ _) (by simp [Value.oneCell']) (by omega) (by unfold maxLen; omega) (by omega) (by simp; omega) (wr.heap.size + 2) (by simp) ?_; intro M' cp' w1 hown1 hgrow hat hlt; have hq1 := (fr_grown hgrow).obj (Go.Bl.heap_alloc_old (Go.Bl.heap_alloc_old HT.out _) _) (by simp [Value.ownBlock]; omega); have v1 := cell_of hq1 256; rw [hTM] at v1; have y1 := frozen_of hq1 256)
          have hF1 : Fr [M] wr w1 := ((((Fr.refl _ _).alloc _).alloc _).trans ((fr_grown hgrow).mono (by simp [Value.ownBlock])))
          have hM' : M' = M ∨ wr.heap.size ≤ M' := by
            rcases hat with hat | hat
            · left; simpa [Value.ownBlock] using hat.symm
            · right; omega
          have hst := HB.out.step T M cp hTs hnil hrep HRow.out hMR hF1 hq1 hown1 hM' hlt 1 rfl (by omega)
          obtain ⟨W2, hW2⟩ : ∃ W2, w1.setCell ⟨RB, 256, none⟩ (.slice (some ⟨M', 0, none⟩) (1 + 1) cp') = W2 := ⟨_, rfl⟩
          have hsz2 : W2.heap.size = w1.heap.size := by rw [← hW2]; simp [World.setCell]
          have hq2 := heap_setCell hq1 256 (.slice (some ⟨M', 0, none⟩) (1 + 1) cp')
          rw [hW2] at hst hq2
          (try simp only [Nat.zero_add, Nat.reduceAdd] at hW2)
          (try rw [hW2])
          have e3' : True := trivial
          have hcv := Lib.run_convert_string_bytes (P := Tryz.prog) W2 9 140 5 ⟨#[92, 92]⟩ Tryz.underlying9 Tryz.underlying140 Tryz.underlying5
          have hq3 := (Lib.bytesWorld_at_old W2 5 ⟨#[92, 92]⟩ RB (lt_of_obj hq2)).trans hq2
          obtain ⟨W3, hW3⟩ : ∃ W3, Lib.bytesWorld W2 5 ⟨#[92, 92]⟩ = W3 := ⟨_, rfl⟩
          have hst2 : Bld w (W3.setCell ⟨RB, 92, none⟩ (.slice (some ⟨W2.heap.size, 0, none⟩) 2 (grownCap W2 2 0 5))) RB (1 + 1) := by rw [← hW3]; exact hst
          rw [hW3] at hcv hq3
          rw [hsz2] at hst2
          have q3 := cell_of hq3 92
          have f3 := frozen_of hq3 92
          rw [show (T.setIfInBounds 256 (.slice (some ⟨M', 0, none⟩) (1 + 1) cp'))[92]? = some (.slice none 0 0) by rw [Array.getElem?_setIfInBounds_ne (by omega)]; exact hnil 92 (by omega) (by intro j hj; obtain rfl : j = 0 := (by omega); decide)] at q3
          have HST := Lib.hid hst2
          clear hst hst2 hq1 hq2 hq3 hnil hrep hown1 hgrow
          rw [hcv]
          go_wp2_with fail
          exact ⟨⟨1 + 1, rfl, by omega, HST.out⟩, by simp [intOf]⟩
        · obtain ⟨T, M, cp, hT, hTs, hTM, hrow, hnil, hrep, hMR⟩ := hB.ex
          have HB := Lib.hid hB
          have u0 := cell_of hT 34
          have u1 := cell_of hT 256
          rw [hnil 34 (by omega) (by intro j hj; rcases (by omega : j = 0 ∨ j = 1) with rfl | rfl <;> decide)] at u0
          rw [hTM] at u1
          have e0 := cell_frS HB.out.fr s0 (by simp)
          have e1 := cell_frS HB.out.fr s1 (by simp)
          have hbk : (convert 140 9 (.slice (some ⟨wr.heap.size, 0, none⟩) 1 1)).run Tryz.prog (wr.alloc (.cells #[.int .u8 34] 5)) = .ok (.string ⟨#[34]⟩) (wr.alloc (.cells #[.int .u8 34] 5)) :=
            run_convert_bytes_back (wr.alloc (.cells #[.int .u8 34] 5)) 140 9 5 ⟨wr.heap.size, 0, none⟩ 1 [34] Tryz.underlying140 Tryz.underlying5 Tryz.underlying9 (by
              intro j hj
              obtain rfl : j = 0 := by simpa using hj
              rw [add_at', cell_of (heap_alloc wr _)]
              rfl)
          have hix : ∀ h, (ByteArray.mk #[34])[0]'h = 34 := fun _ => rfl
          have HT := Lib.hid hT
          have HRow := Lib.hid hrow
          have hRl := lt_of_obj hT
          have hRl0 := HB.out.fr.size
          have hRb := HB.out.base
          clear hT hrow hB
          go_wp2_with (at_builtin; refine wpList_append_lies _ rfl (.tmp 119) (.tmp 123) 107 rfl w.heap.size 9 i0 (.string ⟨#[]⟩) 1 16 Tryz.underlying107 hi0 hz0 hz1 hz2 rfl (by omega) (.slice (some ⟨M, 0, none⟩) 2 cp) 2 (strs 2) (by simp [Act.eval]) ((HRow.out.alloc _).alloc _) ⟨wr.heap.size + 1, 0, none⟩ 1 1 [.string ⟨#[34]⟩] (by simp [Act.eval]) rfl (news1 wr _ _) (by simp [Value.oneCell']) (by omega) (by unfold maxLen; omega) (by omega) (by simp; omega) (wr.heap.size + 2) (by simp) ?_; intro M' cp' w1 hown1 hgrow hat hlt; have hq1 := (fr_grown hgrow).obj (Go.Bl.heap_alloc_old (Go.Bl.heap_alloc_old HT.out _) _) (by simp [Value.ownBlock]; omega); have v1 := cell_of hq1 256; rw [hTM] at v1; have y1 := frozen_of hq1 256)
          have hF1 : Fr [M] wr w1 := ((((Fr.refl _ _).alloc _).alloc _).trans ((fr_grown hgrow).mono (by simp [Value.ownBlock])))
          have hM' : M' = M ∨ wr.heap.size ≤ M' := by
            rcases hat with hat | hat
            · left; simpa [Value.ownBlock] using hat.symm
            · right; omega
          have hst := HB.out.step T M cp hTs hnil hrep HRow.out hMR hF1 hq1 hown1 hM' hlt 2 rfl (by omega)
          obtain ⟨W2, hW2⟩ : ∃ W2, w1.setCell ⟨RB, 256, none⟩ (.slice (some ⟨M', 0, none⟩) (2 + 1) cp') = W2 := ⟨_, rfl⟩
          have hsz2 : W2.heap.size = w1.heap.size := by rw [← hW2]; simp [World.setCell]
          have hq2 := heap_setCell hq1 256 (.slice (some ⟨M', 0, none⟩) (2 + 1) cp')
          rw [hW2] at hst hq2
          (try simp only [Nat.zero_add, Nat.reduceAdd] at hW2)
          (try rw [hW2])
          have e1' : True := trivial
          have hcv := Lib.run_convert_string_bytes (P := Tryz.prog) W2 9 140 5 ⟨#[92, 34]⟩ Tryz.underlying9 Tryz.underlying140 Tryz.underlying5
          have hq3 := (Lib.bytesWorld_at_old W2 5 ⟨#[92, 34]⟩ RB (lt_of_obj hq2)).trans hq2
          obtain ⟨W3, hW3⟩ : ∃ W3, Lib.bytesWorld W2 5 ⟨#[92, 34]⟩ = W3 := ⟨_, rfl⟩
          have hst2 : Bld w (W3.setCell ⟨RB, 34, none⟩ (.slice (some ⟨W2.heap.size, 0, none⟩) 2 (grownCap W2 2 0 5))) RB (2 + 1) := by rw [← hW3]; exact hst
          rw [hW3] at hcv hq3
          rw [hsz2] at hst2
          have q3 := cell_of hq3 34
          have f3 := frozen_of hq3 34
          rw [show (T.setIfInBounds 256 (.slice (some ⟨M', 0, none⟩) (2 + 1) cp'))[34]? = some (.slice none 0 0) by rw [Array.getElem?_setIfInBounds_ne (by omega)]; exact hnil 34 (by omega) (by intro j hj; rcases (by omega : j = 0 ∨ j = 1) with rfl | rfl <;> decide)] at q3
          have HST := Lib.hid hst2
          clear hst hst2 hq1 hq2 hq3 hnil hrep hown1 hgrow
          rw [hcv]
          go_wp2_with fail
          exact ⟨⟨2 + 1, rfl, by omega, HST.out⟩, by simp [intOf]⟩
        · go_wp2_with fail
          go_ret
          exact ⟨RB, rfl, hB⟩
end Go.Proofs.YtdhmloejgoacaaaGreatDoor
namespace Go.Proofs.YtdhmloejgoacaaaGreatDoor
open Go.RowKit Go.Bl Go.Lq

structure BSR (w : World) (RB base : Nat) : Prop where
  ex : ∃ T M cap, w.heap[RB]? = some (.cells T 242 (0, 0)) ∧ T.size = 257 ∧ T[256]? = some (.slice (some ⟨M, 0, none⟩) 3 cap) ∧ base ≤ M ∧ (∀ j u, (strs 3)[j]? = some u → w.cell? ⟨M, j, none⟩ = some u) ∧
    (∀ i, i < 256 → (∀ j, j < 3 → i ≠ sgO j) → T[i]? = some (.slice none 0 0)) ∧
    (∀ k, k < 3 → ∃ K c, T[sgO k]? = some (.slice (some ⟨K, 0, none⟩) 2 c) ∧ base ≤ K ∧ ∀ j u, (sgR k)[j]? = some u → w.cell? ⟨K, j, none⟩ = some (.int .u8 (u.toNat : Int)))
  base : base ≤ RB
theorem BSR.fr {w w' : World} {RB base : Nat} {S : List Nat} (h : BSR w RB base) (hF : Fr S w w') (hS : ∀ i ∈ S, i < base) : BSR w' RB base := by
  obtain ⟨T, M, cap, h1, h2, h3, h4, h5, h6, h7⟩ := h.ex
  have hb := h.base
  refine ⟨⟨T, M, cap, hF.obj h1 (fun hm => by have := hS _ hm; omega), h2, h3, h4, fun j u hu => cell_frS hF (h5 j u hu) (fun hm => by have := hS _ hm; simp only at this; omega), h6, fun k hk => ?_⟩, hb⟩
  obtain ⟨K, c, k1, k2, k3⟩ := h7 k hk
  exact ⟨K, c, k1, k2, fun j u hu => cell_frS hF (k3 j u hu) (fun hm => by have := hS _ hm; simp only at this; omega)⟩
theorem Bld.bsr {w w1 : World} {RB : Nat} (h : Bld w w1 RB 3) : BSR w1 RB w.heap.size := by
  obtain ⟨T, M, cap, h1, h2, h3, h4, h5, h6, h7⟩ := h.ex
  have hM : w.heap.size ≤ M ∧ M < w1.heap.size := row_old h4 (k := M) rfl
  refine ⟨⟨T, M, cap, h1, h2, h3, hM.1, fun j u hu => ?_, h5, fun k hk => ?_⟩, h.base⟩
  · have := h4.cells (g := M) rfl j u hu
    rw [add_at'] at this
    exact this
  · obtain ⟨K, c, k1, k2, k3, k4, k5, k6⟩ := h6 k hk
    exact ⟨K, c, k1, k2, k6⟩

def OncePost (w : World) (R : Nat) (w' : World) : Prop := ∃ RB, Fr [R] w w' ∧ w'.heap[R]? = some (rcells 0 1 (.int .u32 0) (.iface 243 (.pointer (some ⟨RB, 0, none⟩))) (.slice none 0 0)) ∧ BSR w' RB w.heap.size
set_option maxRecDepth 100000 in
theorem buildOnce_any (R O cap : Nat) (w : World) (hb : w.heap[R]? = some (rcells 0 1 (.int .u32 0) .nilIface (.slice (some ⟨O, 0, none⟩) 6 cap))) (ho : w.ownsRow 0 9 1 (.slice (some ⟨O, 0, none⟩) 6 cap) 6 sixStr) :
    Calls Tryz.prog 146 #[.pointer (some ⟨R, 0, none⟩)] w fun e w' => e = .returned (.tuple #[]) ∧ OncePost w R w' := by
  have hB := build_any R O cap 0 1 _ _ w hb ho
  have hRl := lt_of_obj hb
  go_enter Tryz.func146, Tryz.ntmps146
  go_wp2_with fail
  refine hB.mono ?_
  rintro e w1 ⟨RB, rfl, h1⟩
  have hb1 := h1.fr.obj hb (by simp)
  have c3 := cell_of hb1 3
  have z3 := frozen_of hb1 3
  have c4 := cell_of hb1 4
  have z4 := frozen_of hb1 4
  simp only [List.getElem?_toArray, List.getElem?_cons_zero, List.getElem?_cons_succ] at c3 c4
  have H1 := Lib.hid h1
  clear h1
  go_wp2_with fail
  have h2 := heap_setCell (heap_setCell hb1 3 (.iface 243 (.pointer (some ⟨RB, 0, none⟩)))) 4 (.slice none 0 0)
  have hF : Fr [R] w1 _ := ((Fr.refl [R] w1).setCell1 3 (.iface 243 (.pointer (some ⟨RB, 0, none⟩)))).setCell1 4 (.slice none 0 0)
  exact ⟨rfl, .tuple #[], by simp [results, Tryz.results146, go_sem], rfl, RB, (H1.out.fr.mono (by simp)).trans hF, h2, H1.out.bsr.fr hF (by simp; exact hRl)⟩

/-- What byteStringReplacer.Replace answers. -/
def ReplC : Prop := ∀ (RB base : Nat) (s : ByteArray) (w : World), s.size ≤ 1024 → BSR w RB base → Calls Tryz.prog 260 #[.pointer (some ⟨RB, 0, none⟩), .string s] w fun e w' => e = .returned (.string ⟨(s.data.toList.flatMap esc).toArray⟩) ∧ Fr [] w w'
set_option maxRecDepth 100000 in
theorem replace_any (hC : ReplC) (R : Nat) (s : ByteArray) (hs : s.size ≤ 1024) (w : World) (hU : Unbuilt w R) :
    Calls Tryz.prog 125 #[.pointer (some ⟨R, 0, none⟩), .string s] w fun e w' => e = .returned (.string ⟨(s.data.toList.flatMap esc).toArray⟩) ∧ Fr [R] w w' := by
  have hmf : ∀ (fn : Fn) (first cap : Array Value) (w : World), (Instr.makeFunc fn first cap).run Tryz.prog w = .ok (.func fn first cap) w := fun _ _ _ _ => rfl
  obtain ⟨O, cap, hb, ho, hRO⟩ := hU.ex
  have hRl := lt_of_obj hb
  have hF0 : Fr [R] w (w.setCell ⟨R, 1, none⟩ (.int .i32 1)) := (Fr.refl _ _).setCell1 1 _
  have hD := do_first R _ _ _ w (OncePost (w.setCell ⟨R, 1, none⟩ (.int .i32 1)) R) hb (buildOnce_any R O cap _ (heap_setCell hb 1 (.int .i32 1)) (row_fr ho hF0 (fun k hk => by
    obtain rfl : O = k := by simpa [Value.ownBlock] using hk
    simpa using Ne.symm hRO))) (fun w' ⟨RB, _, h, _⟩ => ⟨_, _, _, h⟩)
  go_enter Tryz.func125, Tryz.ntmps125
  go_wp2_with fail
  refine hD.mono ?_
  rintro e w2 ⟨rfl, w1, ⟨RB, hF1, hb1, hB⟩, rfl⟩
  have hF2 : Fr [R] w1 ((w1.drew.setCell ⟨R, 0, none⟩ (.int .u32 1)).setCell ⟨R, 1, none⟩ (.int .i32 0)) := (((Fr.refl [R] w1).drew).setCell1 0 _).setCell1 1 _
  have hB2 := hB.fr hF2 (by simp [World.setCell]; exact hRl)
  have hb2 := heap_setCell (heap_setCell (w := w1.drew) hb1 0 (.int .u32 1)) 1 (.int .i32 0)
  have hFF := (hF0.trans hF1).trans hF2
  obtain ⟨W2, hW2⟩ : ∃ W2, (w1.drew.setCell ⟨R, 0, none⟩ (.int .u32 1)).setCell ⟨R, 1, none⟩ (.int .i32 0) = W2 := ⟨_, rfl⟩
  rw [hW2] at hB2 hb2 hFF ⊢
  have c3 := cell_of hb2 3
  simp only [List.setIfInBounds_toArray, List.set_cons_zero, List.set_cons_succ, List.getElem?_toArray, List.getElem?_cons_zero, List.getElem?_cons_succ] at c3
  have hR := hC RB _ s W2 hs hB2
  clear hB hB2 hb1 hb2 hD hb
  go_wp2_with fail
  refine hR.mono ?_
  rintro e w3 ⟨rfl, hF3⟩
  go_wp2_with fail
  go_ret
  exact ⟨rfl, hFF.trans (hF3.mono (by simp))⟩
end Go.Proofs.YtdhmloejgoacaaaGreatDoor
