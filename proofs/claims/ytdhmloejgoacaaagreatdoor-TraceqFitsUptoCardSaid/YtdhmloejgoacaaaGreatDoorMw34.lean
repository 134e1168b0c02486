/- traceq's reader: a word and a thing behind it, if the word stands next. (Printed by genper2.py.) -/
import Derived.Test.YtdhmloejgoacaaaGreatDoorMw33
set_option linter.unusedVariables false
set_option linter.unusedSimpArgs false
namespace Go.Proofs.YtdhmloejgoacaaaGreatDoor
open Go.RowKit Go.Bl Go.Lq Go.Tq

/-- What a reading thing leaves: done, or it can not go on. -/
def Left2 (b Q o : Nat) (cs : Array Value) (TQ : Nat) (s : ByteArray) (res : Option (Value × Bs)) (w' : World) : Prop := match res with
  | some (v, r) => w'.heap[Q]? = some (.cells (cs.setIfInBounds o v) TQ (0, 0)) ∧ Ar 84 w' b s r false
  | none => w'.heap[Q]? = some (.cells cs TQ (0, 0)) ∧ ∃ r, r <:+ s.data.toList ∧ Ar 84 w' b s r true
def P2Post (W : ByteArray) (b Q o : Nat) (cs : Array Value) (TQ : Nat) (s : ByteArray) (l : Bs) (d : Bool) (f : Bs → Option (Value × Bs)) (w : World) (e : Ending) (w' : World) : Prop :=
  e = .returned (.bool (!d && decide (wordL l = W.data.toList))) ∧ Fr [b, Q] w w' ∧
    (if (!d && decide (wordL l = W.data.toList)) = true then Left2 b Q o cs TQ s (f ((skipL l).drop W.data.toList.length)) w' else w'.heap[Q]? = some (.cells cs TQ (0, 0)) ∧ Ar 84 w' b s (skipL l) d)
def P2Rel (W : ByteArray) (b S Q o : Nat) (cs : Array Value) (TQ : Nat) (s : ByteArray) (l : Bs) (f : Bs → Option (Value × Bs)) (x : Value) (w : World) (v : Value) (wr : World) : Prop :=
  ∃ i : Nat, v = .int .i64 (i : Int) ∧ i ≤ 2 ∧ Fr [b, Q] w wr ∧ wr.heap[S]? = some (.cells #[.iface 85 (.string W), x] 128 (0, 0)) ∧
    (i = 0 ∧ Ar 84 wr b s (skipL l) false ∧ wr.heap[Q]? = some (.cells cs TQ (0, 0)) ∨ i = 1 ∧ Ar 84 wr b s ((skipL l).drop W.data.toList.length) false ∧ wr.heap[Q]? = some (.cells cs TQ (0, 0)) ∨
      i = 2 ∧ Left2 b Q o cs TQ s (f ((skipL l).drop W.data.toList.length)) wr)
theorem Left2.flag {b Q o : Nat} {cs : Array Value} {TQ : Nat} {s : ByteArray} {res : Option (Value × Bs)} {w' : World} (h : Left2 b Q o cs TQ s res w') : ∃ r d, Ar 84 w' b s r d := by
  cases res with
  | none => obtain ⟨_, r, _, h⟩ := h; exact ⟨r, true, h⟩
  | some x => obtain ⟨v, r⟩ := x; exact ⟨r, false, h.2⟩
set_option maxRecDepth 100000 in
set_option maxHeartbeats 2000000 in
theorem perhapsQuoted_any (W : ByteArray) (b S Q o : Nat) (cs : Array Value) (TQ : Nat) (s : ByteArray) (l : Bs) (d : Bool) (w : World) (h : Ar 84 w b s l d) (hs : s.size ≤ 1024) (hG : GV w) (hb8 : 8 ≤ b) (hQ8 : 8 ≤ Q)
    (hQ : w.heap[Q]? = some (.cells cs TQ (0, 0))) (hbQ : b ≠ Q) (v0 : Value) (ho : cs[o]? = some v0)
    (hS : w.heap[S]? = some (.cells #[.iface 85 (.string W), .iface 118 (.agg #[.pointer (some ⟨Q, o, none⟩)])] 128 (0, 0))) (hbS : b ≠ S) (hQS : Q ≠ S) :
    Calls Tryz.prog 63 #[ptr b, .slice (some ⟨S, 0, none⟩) 2 2] w (P2Post W b Q o cs TQ s l d (fun m => (readQuoted m).map fun x => (.string ⟨x.1.toArray⟩, x.2)) w) := by
  have h8 : 8 ≤ w.heap.size := by have := lt_of_obj hQ; omega
  have hc0 := cell_of hS 0
  simp only [List.getElem?_toArray, List.getElem?_cons_zero, List.getElem?_cons_succ] at hc0
  go_enter Tryz.func63, Tryz.ntmps63
  go_wp2_with fail
  refine (seesWord_any W b s l d _ h).mono ?_
  rintro e w1 ⟨rfl, hR, hF⟩
  have hS1 := hF.obj hS (by simpa using hbS.symm)
  have hQ1 := hF.obj hQ (by simpa using hbQ.symm)
  have hFa : Fr [b, Q] w w1 := fr2 hF
  have hc1 := cell_of hS1 0
  simp only [List.getElem?_toArray, List.getElem?_cons_zero, List.getElem?_cons_succ] at hc1
  obtain ⟨v, hv⟩ : ∃ v, (!d && decide (wordL l = W.data.toList)) = v := ⟨_, rfl⟩
  rw [hv]
  have HV := Lib.hid hv
  clear hv
  cases v
  · go_wp2_with fail
    go_ret
    unfold P2Post
    rw [HV.out]
    exact ⟨rfl, hFa, hQ1, hR⟩
  · obtain ⟨rfl, hw⟩ : d = false ∧ wordL l = W.data.toList := by
      have := HV.out
      cases d
      · exact ⟨rfl, by simpa using this⟩
      · simp at this
    have H0 : P2Rel W b S Q o cs TQ s l (fun m => (readQuoted m).map fun x => (.string ⟨x.1.toArray⟩, x.2)) (.iface 118 (.agg #[.pointer (some ⟨Q, o, none⟩)])) w (.int .i64 0) w1 := ⟨0, rfl, by omega, hFa, hS1, .inl ⟨rfl, hR, hQ1⟩⟩
    have HW := Lib.hid hw
    clear hw hR hF hS1 hc1 hc0 h hFa hQ1
    go_wp2_with fail
    go_loopw [15] (fun v wr => P2Rel W b S Q o cs TQ s l (fun m => (readQuoted m).map fun x => (.string ⟨x.1.toArray⟩, x.2)) (.iface 118 (.agg #[.pointer (some ⟨Q, o, none⟩)])) w v wr) (fun v _ => 2 - (intOf v).toNat)
    case atStart => exact H0
    case round =>
      clear H0
      obtain ⟨i, rfl, hi, hF, hS1, hcase⟩ := hrel
      have hc0 := cell_of hS1 0
      have hc1 := cell_of hS1 1
      simp only [List.getElem?_toArray, List.getElem?_cons_zero, List.getElem?_cons_succ] at hc0 hc1
      rcases hcase with ⟨rfl, hR, hQ1⟩ | ⟨rfl, hR, hQ1⟩ | ⟨rfl, hL⟩
      · have k2 := cell_of hR.cells 2
        simp only [List.getElem?_toArray, List.getElem?_cons_zero, List.getElem?_cons_succ] at k2
        have hm := fun n => meth_word n W
        go_wp2_with fail
        refine (wordRead_any W b s (skipL l) false _ hR).mono ?_
        rintro e w2 ⟨rfl, hR2, hF2⟩
        have hwr : wordR W.data.toList (skipL l) false = ((skipL l).drop W.data.toList.length, false) := by
          unfold wordR
          rw [wordL_skip, HW.out, if_pos rfl, skip_skip]
        rw [hwr] at hR2
        have hS2 := hF2.obj hS1 (by simpa using hbS.symm)
        have hQ2 := hF2.obj hQ1 (by simpa using hbQ.symm)
        have hF3 : Fr [b, Q] w w2 := hF.trans (fr2 hF2)
        clear hm hwr hc0 hc1 k2 hR hF hS1 hF2 hQ1
        go_wp2_with fail
        exact ⟨⟨1, rfl, by omega, hF3, hS2, .inr (.inl ⟨rfl, hR2, hQ2⟩)⟩, by simp [intOf]⟩
      · have k2 := cell_of hR.cells 2
        simp only [List.getElem?_toArray, List.getElem?_cons_zero, List.getElem?_cons_succ] at k2
        have hm := fun n => meth_quoted n ⟨Q, o, none⟩
        have hG1 := hG.below (hF.below (B := 8) h8 (by simp; omega)) (Nat.le_refl _)
        go_wp2_with fail
        refine (quotedRead_any b Q o cs TQ s _ _ hR hs hG1 hb8 hQ8 hQ1 hbQ v0 ho).mono ?_
        rintro e w2 ⟨rfl, hF2, hL⟩
        have hS2 := hF2.obj hS1 (by simp; exact ⟨hbS.symm, hQS.symm⟩)
        have hF3 := hF.trans hF2
        have HL : Hid (Left2 b Q o cs TQ s ((readQuoted ((skipL l).drop W.data.toList.length)).map fun x => (.string ⟨x.1.toArray⟩, x.2)) w2) := Lib.hid hL
        clear hm hc0 hc1 k2 hR hF hS1 hF2 hQ1 hG1 hL
        go_wp2_with fail
        exact ⟨⟨2, rfl, by omega, hF3, hS2, .inr (.inr ⟨rfl, HL.out⟩)⟩, by simp [intOf]⟩
      · have HL := Lib.hid hL
        clear hL
        go_wp2_with fail
        go_ret
        unfold P2Post
        rw [HV.out, if_pos rfl]
        exact ⟨rfl, hF, HL.out⟩
set_option maxRecDepth 100000 in
set_option maxHeartbeats 2000000 in
theorem perhapsSpan_any (W : ByteArray) (b S Q o : Nat) (cs : Array Value) (TQ : Nat) (s : ByteArray) (l : Bs) (d : Bool) (w : World) (h : Ar 84 w b s l d) (hs : s.size ≤ 1024) (hG : GV w) (hb8 : 8 ≤ b) (hQ8 : 8 ≤ Q)
    (hQ : w.heap[Q]? = some (.cells cs TQ (0, 0))) (hbQ : b ≠ Q) (v0 : Value) (ho : cs[o]? = some v0)
    (hS : w.heap[S]? = some (.cells #[.iface 85 (.string W), .iface 121 (.agg #[.pointer (some ⟨Q, o, none⟩)])] 128 (0, 0))) (hbS : b ≠ S) (hQS : Q ≠ S) :
    Calls Tryz.prog 63 #[ptr b, .slice (some ⟨S, 0, none⟩) 2 2] w (P2Post W b Q o cs TQ s l d (fun m => (readSpan m).map fun x => (.int .i64 x.1, x.2)) w) := by
  have h8 : 8 ≤ w.heap.size := by have := lt_of_obj hQ; omega
  have hc0 := cell_of hS 0
  simp only [List.getElem?_toArray, List.getElem?_cons_zero, List.getElem?_cons_succ] at hc0
  go_enter Tryz.func63, Tryz.ntmps63
  go_wp2_with fail
  refine (seesWord_any W b s l d _ h).mono ?_
  rintro e w1 ⟨rfl, hR, hF⟩
  have hS1 := hF.obj hS (by simpa using hbS.symm)
  have hQ1 := hF.obj hQ (by simpa using hbQ.symm)
  have hFa : Fr [b, Q] w w1 := fr2 hF
  have hc1 := cell_of hS1 0
  simp only [List.getElem?_toArray, List.getElem?_cons_zero, List.getElem?_cons_succ] at hc1
  obtain ⟨v, hv⟩ : ∃ v, (!d && decide (wordL l = W.data.toList)) = v := ⟨_, rfl⟩
  rw [hv]
  have HV := Lib.hid hv
  clear hv
  cases v
  · go_wp2_with fail
    go_ret
    unfold P2Post
    rw [HV.out]
    exact ⟨rfl, hFa, hQ1, hR⟩
  · obtain ⟨rfl, hw⟩ : d = false ∧ wordL l = W.data.toList := by
      have := HV.out
      cases d
      · exact ⟨rfl, by simpa using this⟩
      · simp at this
    have H0 : P2Rel W b S Q o cs TQ s l (fun m => (readSpan m).map fun x => (.int .i64 x.1, x.2)) (.iface 121 (.agg #[.pointer (some ⟨Q, o, none⟩)])) w (.int .i64 0) w1 := ⟨0, rfl, by omega, hFa, hS1, .inl ⟨rfl, hR, hQ1⟩⟩
    have HW := Lib.hid hw
    clear hw hR hF hS1 hc1 hc0 h hFa hQ1
    go_wp2_with fail
    go_loopw [15] (fun v wr => P2Rel W b S Q o cs TQ s l (fun m => (readSpan m).map fun x => (.int .i64 x.1, x.2)) (.iface 121 (.agg #[.pointer (some ⟨Q, o, none⟩)])) w v wr) (fun v _ => 2 - (intOf v).toNat)
    case atStart => exact H0
    case round =>
      clear H0
      obtain ⟨i, rfl, hi, hF, hS1, hcase⟩ := hrel
      have hc0 := cell_of hS1 0
      have hc1 := cell_of hS1 1
      simp only [List.getElem?_toArray, List.getElem?_cons_zero, List.getElem?_cons_succ] at hc0 hc1
      rcases hcase with ⟨rfl, hR, hQ1⟩ | ⟨rfl, hR, hQ1⟩ | ⟨rfl, hL⟩
      · have k2 := cell_of hR.cells 2
        simp only [List.getElem?_toArray, List.getElem?_cons_zero, List.getElem?_cons_succ] at k2
        have hm := fun n => meth_word n W
        go_wp2_with fail
        refine (wordRead_any W b s (skipL l) false _ hR).mono ?_
        rintro e w2 ⟨rfl, hR2, hF2⟩
        have hwr : wordR W.data.toList (skipL l) false = ((skipL l).drop W.data.toList.length, false) := by
          unfold wordR
          rw [wordL_skip, HW.out, if_pos rfl, skip_skip]
        rw [hwr] at hR2
        have hS2 := hF2.obj hS1 (by simpa using hbS.symm)
        have hQ2 := hF2.obj hQ1 (by simpa using hbQ.symm)
        have hF3 : Fr [b, Q] w w2 := hF.trans (fr2 hF2)
        clear hm hwr hc0 hc1 k2 hR hF hS1 hF2 hQ1
        go_wp2_with fail
        exact ⟨⟨1, rfl, by omega, hF3, hS2, .inr (.inl ⟨rfl, hR2, hQ2⟩)⟩, by simp [intOf]⟩
      · have k2 := cell_of hR.cells 2
        simp only [List.getElem?_toArray, List.getElem?_cons_zero, List.getElem?_cons_succ] at k2
        have hm := fun n => meth_span n ⟨Q, o, none⟩
        have hG1 := hG.below (hF.below (B := 8) h8 (by simp; omega)) (Nat.le_refl _)
        go_wp2_with fail
        refine (spanRead_any b Q o cs TQ s _ _ hR hG1 hb8 hQ8 hQ1 hbQ v0 ho).mono ?_
        rintro e w2 ⟨rfl, hF2, hL⟩
        have hS2 := hF2.obj hS1 (by simp; exact ⟨hbS.symm, hQS.symm⟩)
        have hF3 := hF.trans hF2
        have HL : Hid (Left2 b Q o cs TQ s ((readSpan ((skipL l).drop W.data.toList.length)).map fun x => (.int .i64 x.1, x.2)) w2) := Lib.hid hL
        clear hm hc0 hc1 k2 hR hF hS1 hF2 hQ1 hG1 hL
        go_wp2_with fail
        exact ⟨⟨2, rfl, by omega, hF3, hS2, .inr (.inr ⟨rfl, HL.out⟩)⟩, by simp [intOf]⟩
      · have HL := Lib.hid hL
        clear hL
        go_wp2_with fail
        go_ret
        unfold P2Post
        rw [HV.out, if_pos rfl]
        exact ⟨rfl, hF, HL.out⟩
set_option maxRecDepth 100000 in
set_option maxHeartbeats 2000000 in
theorem perhapsCount_any (W : ByteArray) (b S Q o : Nat) (cs : Array Value) (TQ : Nat) (s : ByteArray) (l : Bs) (d : Bool) (w : World) (h : Ar 84 w b s l d) (hs : s.size ≤ 1024) (hG : GV w) (hE : GE w ∨ (d = false → wordL l = W.data.toList → ∃ v, Lib.atoiAll (wordL ((skipL l).drop W.data.toList.length)) = .ok v)) (hb8 : 8 ≤ b) (hQ8 : 8 ≤ Q)
    (hQ : w.heap[Q]? = some (.cells cs TQ (0, 0))) (hbQ : b ≠ Q) (v0 : Value) (ho : cs[o]? = some v0)
    (hS : w.heap[S]? = some (.cells #[.iface 85 (.string W), .iface 92 (.agg #[.pointer (some ⟨Q, o, none⟩)])] 128 (0, 0))) (hbS : b ≠ S) (hQS : Q ≠ S) :
    Calls Tryz.prog 63 #[ptr b, .slice (some ⟨S, 0, none⟩) 2 2] w (P2Post W b Q o cs TQ s l d (fun m => (readCount m).map fun x => (.int .i64 x.1, x.2)) w) := by
  have h8 : 8 ≤ w.heap.size := by have := lt_of_obj hQ; omega
  have hc0 := cell_of hS 0
  simp only [List.getElem?_toArray, List.getElem?_cons_zero, List.getElem?_cons_succ] at hc0
  go_enter Tryz.func63, Tryz.ntmps63
  go_wp2_with fail
  refine (seesWord_any W b s l d _ h).mono ?_
  rintro e w1 ⟨rfl, hR, hF⟩
  have hS1 := hF.obj hS (by simpa using hbS.symm)
  have hQ1 := hF.obj hQ (by simpa using hbQ.symm)
  have hFa : Fr [b, Q] w w1 := fr2 hF
  have hc1 := cell_of hS1 0
  simp only [List.getElem?_toArray, List.getElem?_cons_zero, List.getElem?_cons_succ] at hc1
  obtain ⟨v, hv⟩ : ∃ v, (!d && decide (wordL l = W.data.toList)) = v := ⟨_, rfl⟩
  rw [hv]
  have HV := Lib.hid hv
  clear hv
  cases v
  · go_wp2_with fail
    go_ret
    unfold P2Post
    rw [HV.out]
    exact ⟨rfl, hFa, hQ1, hR⟩
  · obtain ⟨rfl, hw⟩ : d = false ∧ wordL l = W.data.toList := by
      have := HV.out
      cases d
      · exact ⟨rfl, by simpa using this⟩
      · simp at this
    have H0 : P2Rel W b S Q o cs TQ s l (fun m => (readCount m).map fun x => (.int .i64 x.1, x.2)) (.iface 92 (.agg #[.pointer (some ⟨Q, o, none⟩)])) w (.int .i64 0) w1 := ⟨0, rfl, by omega, hFa, hS1, .inl ⟨rfl, hR, hQ1⟩⟩
    have HW := Lib.hid hw
    clear hw hR hF hS1 hc1 hc0 h hFa hQ1
    go_wp2_with fail
    go_loopw [15] (fun v wr => P2Rel W b S Q o cs TQ s l (fun m => (readCount m).map fun x => (.int .i64 x.1, x.2)) (.iface 92 (.agg #[.pointer (some ⟨Q, o, none⟩)])) w v wr) (fun v _ => 2 - (intOf v).toNat)
    case atStart => exact H0
    case round =>
      clear H0
      obtain ⟨i, rfl, hi, hF, hS1, hcase⟩ := hrel
      have hc0 := cell_of hS1 0
      have hc1 := cell_of hS1 1
      simp only [List.getElem?_toArray, List.getElem?_cons_zero, List.getElem?_cons_succ] at hc0 hc1
      rcases hcase with ⟨rfl, hR, hQ1⟩ | ⟨rfl, hR, hQ1⟩ | ⟨rfl, hL⟩
      · have k2 := cell_of hR.cells 2
        simp only [List.getElem?_toArray, List.getElem?_cons_zero, List.getElem?_cons_succ] at k2
        have hm := fun n => meth_word n W
        go_wp2_with fail
        refine (wordRead_any W b s (skipL l) false _ hR).mono ?_
        rintro e w2 ⟨rfl, hR2, hF2⟩
        have hwr : wordR W.data.toList (skipL l) false = ((skipL l).drop W.data.toList.length, false) := by
          unfold wordR
          rw [wordL_skip, HW.out, if_pos rfl, skip_skip]
        rw [hwr] at hR2
        have hS2 := hF2.obj hS1 (by simpa using hbS.symm)
        have hQ2 := hF2.obj hQ1 (by simpa using hbQ.symm)
        have hF3 : Fr [b, Q] w w2 := hF.trans (fr2 hF2)
        clear hm hwr hc0 hc1 k2 hR hF hS1 hF2 hQ1
        go_wp2_with fail
        exact ⟨⟨1, rfl, by omega, hF3, hS2, .inr (.inl ⟨rfl, hR2, hQ2⟩)⟩, by simp [intOf]⟩
      · have k2 := cell_of hR.cells 2
        simp only [List.getElem?_toArray, List.getElem?_cons_zero, List.getElem?_cons_succ] at k2
        have hm := fun n => meth_count n ⟨Q, o, none⟩
        have hG1 := hG.below (hF.below (B := 8) h8 (by simp; omega)) (Nat.le_refl _)
        have hE1 := hE.imp (fun h => h.below (hF.below (B := 8) h8 (by simp; omega)) (Nat.le_refl _)) (fun h => h (by first | trivial | rfl) HW.out)
        go_wp2_with fail
        refine (countRead_any b Q o cs TQ s _ _ hR hG1 hE1 hb8 hQ8 hQ1 hbQ v0 ho).mono ?_
        rintro e w2 ⟨rfl, hF2, hL⟩
        have hS2 := hF2.obj hS1 (by simp; exact ⟨hbS.symm, hQS.symm⟩)
        have hF3 := hF.trans hF2
        have HL : Hid (Left2 b Q o cs TQ s ((readCount ((skipL l).drop W.data.toList.length)).map fun x => (.int .i64 x.1, x.2)) w2) := Lib.hid hL
        clear hm hc0 hc1 k2 hR hF hS1 hF2 hQ1 hG1 hL
        go_wp2_with fail
        exact ⟨⟨2, rfl, by omega, hF3, hS2, .inr (.inr ⟨rfl, HL.out⟩)⟩, by simp [intOf]⟩
      · have HL := Lib.hid hL
        clear hL
        go_wp2_with fail
        go_ret
        unfold P2Post
        rw [HV.out, if_pos rfl]
        exact ⟨rfl, hF, HL.out⟩
end Go.Proofs.YtdhmloejgoacaaaGreatDoor
namespace Go.Proofs.YtdhmloejgoacaaaGreatDoor
open Go.RowKit Go.Bl Go.Lq Go.Tq

def LeftM (b Q o : Nat) (cs : Array Value) (TQ : Nat) (s : ByteArray) (res : Option (List Mt × Bs)) (w' : World) : Prop := match res with
  | some (ms, r) => ∃ v, Mts w' v ms ∧ w'.heap[Q]? = some (.cells (cs.setIfInBounds o v) TQ (0, 0)) ∧ Ar 84 w' b s r false
  | none => w'.heap[Q]? = some (.cells cs TQ (0, 0)) ∧ ∃ r, r <:+ s.data.toList ∧ Ar 84 w' b s r true
def PMaPost (b Q o : Nat) (cs : Array Value) (TQ : Nat) (s : ByteArray) (l : Bs) (d : Bool) (w : World) (e : Ending) (w' : World) : Prop :=
  e = .returned (.bool (!d && decide ((skipL l).head? = some 123))) ∧ Fr [b, Q] w w' ∧
    (if (!d && decide ((skipL l).head? = some 123)) = true then LeftM b Q o cs TQ s (readMatchers (skipL l)) w' else w'.heap[Q]? = some (.cells cs TQ (0, 0)) ∧ Ar 84 w' b s (skipL l) d)
def PMaRel (b S Q o : Nat) (cs : Array Value) (TQ : Nat) (s : ByteArray) (l : Bs) (x : Value) (w : World) (v : Value) (wr : World) : Prop :=
  ∃ i : Nat, v = .int .i64 (i : Int) ∧ i ≤ 1 ∧ Fr [b, Q] w wr ∧ wr.heap[S]? = some (.cells #[x] 128 (0, 0)) ∧
    (i = 0 ∧ Ar 84 wr b s (skipL l) false ∧ wr.heap[Q]? = some (.cells cs TQ (0, 0)) ∨ i = 1 ∧ LeftM b Q o cs TQ s (readMatchers (skipL l)) wr)
set_option maxRecDepth 100000 in
set_option maxHeartbeats 2000000 in
theorem perhapsM_any (b S Q o : Nat) (cs : Array Value) (TQ : Nat) (s : ByteArray) (l : Bs) (d : Bool) (w : World) (h : Ar 84 w b s l d) (hs : s.size ≤ 1024) (hG : GV w) (hb8 : 8 ≤ b) (hQ8 : 8 ≤ Q)
    (hQ : w.heap[Q]? = some (.cells cs TQ (0, 0))) (hbQ : b ≠ Q) (v0 : Value) (ho : cs[o]? = some v0) (hno : NoMt cs)
    (hS : w.heap[S]? = some (.cells #[.iface 124 (.agg #[.pointer (some ⟨Q, o, none⟩)])] 128 (0, 0))) (hbS : b ≠ S) (hQS : Q ≠ S) :
    Calls Tryz.prog 63 #[ptr b, .slice (some ⟨S, 0, none⟩) 1 1] w (PMaPost b Q o cs TQ s l d w) := by
  have h8 : 8 ≤ w.heap.size := by have := lt_of_obj hQ; omega
  have hc0 := cell_of hS 0
  simp only [List.getElem?_toArray, List.getElem?_cons_zero, List.getElem?_cons_succ] at hc0
  go_enter Tryz.func63, Tryz.ntmps63
  go_wp2_with fail
  refine (seesMat_any ⟨Q, o, none⟩ b s l d _ h).mono ?_
  rintro e w1 ⟨rfl, hR, hF⟩
  have hS1 := hF.obj hS (by simpa using hbS.symm)
  have hQ1 := hF.obj hQ (by simpa using hbQ.symm)
  have hFa : Fr [b, Q] w w1 := fr2 hF
  have hc1 := cell_of hS1 0
  simp only [List.getElem?_toArray, List.getElem?_cons_zero, List.getElem?_cons_succ] at hc1
  obtain ⟨v, hv⟩ : ∃ v, (!d && decide ((skipL l).head? = some 123)) = v := ⟨_, rfl⟩
  rw [hv]
  have HV := Lib.hid hv
  clear hv
  cases v
  · go_wp2_with fail
    go_ret
    unfold PMaPost
    rw [HV.out]
    exact ⟨rfl, hFa, hQ1, hR⟩
  · obtain ⟨rfl, hw⟩ : d = false ∧ (skipL l).head? = some 123 := by
      have := HV.out
      cases d
      · exact ⟨rfl, by simpa using this⟩
      · simp at this
    have H0 : PMaRel b S Q o cs TQ s l (.iface 124 (.agg #[.pointer (some ⟨Q, o, none⟩)])) w (.int .i64 0) w1 := ⟨0, rfl, by omega, hFa, hS1, .inl ⟨rfl, hR, hQ1⟩⟩
    have HW := Lib.hid hw
    clear hw hR hF hS1 hc1 hc0 h hFa hQ1
    go_wp2_with fail
    go_loopw [15] (fun v wr => PMaRel b S Q o cs TQ s l (.iface 124 (.agg #[.pointer (some ⟨Q, o, none⟩)])) w v wr) (fun v _ => 1 - (intOf v).toNat)
    case atStart => exact H0
    case round =>
      clear H0
      obtain ⟨i, rfl, hi, hF, hS1, hcase⟩ := hrel
      have hc0 := cell_of hS1 0
      simp only [List.getElem?_toArray, List.getElem?_cons_zero, List.getElem?_cons_succ] at hc0
      rcases hcase with ⟨rfl, hR, hQ1⟩ | ⟨rfl, hL⟩
      · have k2 := cell_of hR.cells 2
        simp only [List.getElem?_toArray, List.getElem?_cons_zero, List.getElem?_cons_succ] at k2
        have hm := fun n => meth_mat n ⟨Q, o, none⟩
        have hG1 := hG.below (hF.below (B := 8) h8 (by simp; omega)) (Nat.le_refl _)
        have hrd := matRead_any b Q o cs TQ s (skipL l) (by rw [skip_skip]; exact HW.out) _ hR hs hG1 hb8 hQ8 hQ1 hbQ v0 ho hno
        go_wp2_with fail
        refine hrd.mono ?_
        rintro e w2 ⟨rfl, hF2, hL⟩
        have hS2 := hF2.obj hS1 (by simp; exact ⟨hbS.symm, hQS.symm⟩)
        have hF3 := hF.trans hF2
        have HL : Hid (LeftM b Q o cs TQ s (readMatchers (skipL l)) w2) := Lib.hid hL
        clear hm hc0 k2 hR hF hS1 hF2 hQ1 hG1 hL hrd
        go_wp2_with fail
        exact ⟨⟨1, rfl, by omega, hF3, hS2, .inr ⟨rfl, HL.out⟩⟩, by simp [intOf]⟩
      · have HL := Lib.hid hL
        clear hL
        go_wp2_with fail
        go_ret
        unfold PMaPost
        rw [HV.out, if_pos rfl]
        exact ⟨rfl, hF, HL.out⟩
end Go.Proofs.YtdhmloejgoacaaaGreatDoor
