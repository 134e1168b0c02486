/- The fixed calls of 'known' of chapter 15 (plain). -/
import Derived.Test.YtdhmloejgoacaaaGreatDoorMw40
import Derived.Lib.ValidU
import Derived.KernelRfl
import Derived.Test.YtdhmloejgoacaaaGreatDoorTqParse
set_option linter.unusedVariables false
set_option linter.unusedSimpArgs false
namespace Go.Proofs.YtdhmloejgoacaaaGreatDoor
open Go.RowKit Go.Bl Go.Lq Go.Tq

def tknown1 : Bs := [115, 112, 97, 110, 115, 32, 110, 97, 109, 101, 100, 32, 34, 71, 69, 84, 34, 32, 108, 101, 97, 115, 116, 32, 53, 109, 115, 32, 123, 101, 110, 118, 61, 34, 112, 114, 111, 100, 34, 125, 32, 119, 105, 116, 104, 32, 99, 104, 105, 108, 100, 32, 110, 97, 109, 101, 100, 32, 34, 113, 117, 101, 114, 121, 34, 32, 108, 105, 109, 105, 116, 32, 49, 48]
def tknown2 : Bs := [115, 112, 97, 110, 115, 32, 119, 105, 116, 104]
def tknownQ : Tq := ⟨⟨[71, 69, 84], 5000000, [⟨1, [101, 110, 118], [112, 114, 111, 100]⟩]⟩, ⟨[113, 117, 101, 114, 121], 0, []⟩, 2, 10⟩
theorem tdigs5 : digs 5 = [53] := by rw [digs, if_pos (by omega)]; rfl
theorem tdigs10 : digs 10 = [49, 48] := by
  rw [digs, if_neg (by omega), digs, if_pos (by omega)]
  rfl
theorem tspan : spanP 5000000 = some [53, 109, 115] := by
  unfold spanP
  rw [if_neg (by decide)]
  unfold units
  rw [spanGo, if_neg (by decide), spanGo, if_neg (by decide), spanGo, if_neg (by decide), spanGo, if_pos (by decide)]
  rw [show ((5000000 : Int) / 1000000).toNat = 5 from rfl, tdigs5]
  rfl
theorem ttext : textT tknownQ = tknown1 := by
  have h1 : spanD 5000000 = [53, 109, 115] := by unfold spanD; rw [tspan]; rfl
  unfold textT testT tknownQ
  simp only [h1, show (10 : Int).toNat = 10 from rfl, tdigs10]
  rfl
theorem tfine : FineT tknownQ := by
  refine ⟨⟨fun _ => by rw [show tknownQ.first.least = 5000000 from rfl, tspan]; simp, fun x hx => ?_⟩, ⟨fun h => absurd rfl h, fun x hx => by cases hx⟩, by decide, by decide, by decide⟩
  have : x = ⟨1, [101, 110, 118], [112, 114, 111, 100]⟩ := by
    have h : x ∈ ([⟨1, [101, 110, 118], [112, 114, 111, 100]⟩] : List Mt) := hx
    simpa using h
  subst this
  decide
theorem tright : rightT Go.Lib.validD tknownQ = 0 := by
  have h1 : wrongS Go.Lib.validD tknownQ.first = 0 := by
    unfold wrongS
    rw [show tknownQ.first.least = 5000000 from rfl, tspan]
    kernel_rfl
  have h2 : wrongS Go.Lib.validD tknownQ.second = 0 := by
    unfold wrongS
    have hv : valueP Go.Lib.validD tknownQ.second.name = true := by kernel_rfl
    rw [if_neg (by rw [hv]; rintro ⟨_, h⟩; cases h), if_neg (by rintro ⟨h, _⟩; exact h rfl)]
    rfl
  unfold rightT
  rw [h1, h2, ttext]
  rfl
theorem tparse1 : parseTP Go.Lib.validD tknown1 = (tknownQ, 0) := by
  unfold parseTP
  rw [if_neg (by decide), ← ttext, readAll_text tfine]
  simp only
  rw [tright]
  rfl
theorem tstart2 : bindQ (startRes tknown2) putFirst readTest = some (zeroT, [119, 105, 116, 104]) := by rfl
theorem thas2 : hasRes (bindQ (startRes tknown2) putFirst readTest) = none := by rw [tstart2]; rfl
theorem tend2 : EndAt tknown2 := ⟨thas2, by rw [tstart2]; exact ⟨_, _, rfl, rfl, rfl⟩⟩
theorem tparse2 : parseTP Go.Lib.validD tknown2 = (zeroT, 131) := by
  unfold parseTP
  rw [if_neg (by decide), readAll_end, tend2.none]
theorem tprint : printTP tknownQ = tknown1 := by unfold printTP; rw [tright, if_pos rfl, ttext]
end Go.Proofs.YtdhmloejgoacaaaGreatDoor
namespace Go.Proofs.YtdhmloejgoacaaaGreatDoor
open Go.RowKit Go.Bl Go.Lq Go.Tq

theorem wrongM_fine {V : Bs → Bool} {l : List Mt} (h : wrongM V l = 0) : ∀ x ∈ l, keyP x.key = true ∧ 1 ≤ x.op ∧ x.op ≤ 4 := by
  induction l with
  | nil => intro x hx; cases hx
  | cons m l ih =>
    unfold wrongM at h
    split at h
    · cases h
    · rename_i ho
      split at h
      · cases h
      · rename_i hk
        split at h
        · cases h
        · intro x hx
          rcases List.mem_cons.1 hx with rfl | hx
          · exact ⟨by simpa using hk, by omega, by omega⟩
          · exact ih h x hx
theorem rightM_fine {V : Bs → Bool} {l : List Mt} (h : rightM V l = 0) : l.length ≤ 8 ∧ ∀ x ∈ l, keyP x.key = true ∧ 1 ≤ x.op ∧ x.op ≤ 4 := by
  unfold rightM at h
  split at h
  · cases h
  · exact ⟨by omega, wrongM_fine h⟩
theorem wrongS_fine {V : Bs → Bool} {t : St} (h : wrongS V t = 0) : FineS t ∧ t.mat.length ≤ 8 := by
  have h3 := (wrongS_ok h).2.2
  unfold wrongS at h
  split at h
  · cases h
  · split at h
    · cases h
    · obtain ⟨h1, h2⟩ := rightM_fine h
      exact ⟨⟨h3, h2⟩, h1⟩
theorem rightT_fine {V : Bs → Bool} {q : Tq} (h : rightT V q = 0) : FineT q ∧ q.first.mat.length ≤ 8 ∧ q.second.mat.length ≤ 8 ∧ (textT q).length ≤ 1024 := by
  unfold rightT at h
  split at h
  · rename_i h1; exact absurd h h1
  · rename_i h1
    split at h
    · rename_i h2; exact absurd h h2
    · rename_i h2
      split at h
      · cases h
      · rename_i h3
        split at h
        · cases h
        · rename_i h4
          split at h
          · cases h
          · rename_i h5
            obtain ⟨f1, l1⟩ := wrongS_fine (by simpa using h1 : wrongS V q.first = 0)
            obtain ⟨f2, l2⟩ := wrongS_fine (by simpa using h2 : wrongS V q.second = 0)
            refine ⟨⟨f1, f2, by omega, fun h => ?_, by omega⟩, l1, l2, by omega⟩
            by_cases hs : q.second = emptySt
            · exact hs
            · exact absurd ⟨h, hs⟩ h4
theorem parseT_back {V : Bs → Bool} {q : Tq} (h : rightT V q = 0) : parseTP V (textT q) = (q, 0) := by
  obtain ⟨hf, _, _, hl⟩ := rightT_fine h
  unfold parseTP
  rw [if_neg (by omega), readAll_text hf]
  simp only
  rw [if_neg (by simp [h])]
theorem parseT_cases (V : Bs → Bool) (s : Bs) : ((parseTP V s).2 ≠ 0 ∧ (parseTP V s).1 = zeroT) ∨ ((parseTP V s).2 = 0 ∧ rightT V (parseTP V s).1 = 0) := by
  unfold parseTP
  split
  · exact .inl ⟨by simp, rfl⟩
  · split
    · exact .inl ⟨by simp, rfl⟩
    · split
      · rename_i h; exact .inl ⟨h, rfl⟩
      · rename_i h; exact .inr ⟨rfl, by simpa using h⟩
/-- The text of a query that can be: its count is read by Atoi. -/
theorem limOk_text {q : Tq} (h : FineT q) : LimOk (textT q) := by
  have hr := has_rest q
  obtain ⟨A, a1, a2⟩ := test_back h.first hr
  obtain ⟨B, b1, b2⟩ := has_back h
  obtain ⟨w1, w2⟩ := word_at (w := wSpans) (R := testT q.first ++ (hasT q ++ limitT q)) (by decide) (by decide) (testT_ends q.first hr)
  have hs : startRes (textT q) = some (zeroT, testT q.first ++ (hasT q ++ limitT q)) := by
    unfold startRes readWord
    rw [textT_eq, w1, if_pos rfl, w2]
    rfl
  intro t r hh hw
  have hB : r = B := by
    rw [hs, bindQ_some, a1] at hh
    simp only [Option.map_some] at hh
    unfold hasRes at hh
    simp only [Option.bind_some] at hh
    rw [readHas_skip a2, b1] at hh
    simp only [Option.map_some, Option.some.injEq, Prod.mk.injEq] at hh
    exact hh.2.symm
  subst hB
  have hw2 : wordL r = wordL (limitT q) := by unfold wordL; rw [b2]
  rw [b2]
  unfold limitT at hw2 ⊢
  by_cases h0 : q.limit = 0
  · rw [if_neg (by simp [h0])] at hw2
    rw [hw2] at hw
    exact absurd hw (by decide)
  · rw [if_pos h0]
    obtain ⟨k, hk⟩ : ∃ k : Nat, q.limit = (k : Int) := ⟨q.limit.toNat, by have := h.limit; omega⟩
    have hk1 : 1 ≤ k ∧ k ≤ 1000 := by have := h.limit; omega
    obtain ⟨d1, d2, d3, d4⟩ := digs_spec k
    rw [hk, Int.toNat_natCast]
    obtain ⟨_, v2⟩ := word_at (w := wLimit) (R := 32 :: digs k) (by decide) (by decide) (Ends.cons _)
    have hdw : (digs k).all isW = true := by
      rw [List.all_eq_true] at d1 ⊢
      intro c hc
      unfold isW
      rw [d1 c hc, Bool.or_true]
    obtain ⟨u1, _⟩ := word_at (w := digs k) (R := []) hdw d3 (.inl rfl)
    rw [List.append_nil] at u1
    rw [skip_blank, v2, wordL_blank, u1]
    rcases atoi_digits d1 with ⟨h, _⟩ | ⟨_, h⟩ | ⟨_, _, h⟩
    · exact absurd h d3
    · exact ⟨_, h⟩
    · omega
theorem limOk_none {l : Bs} (h : hasRes (bindQ (startRes l) putFirst readTest) = none) : LimOk l := fun t r hh => by rw [h] at hh; cases hh
end Go.Proofs.YtdhmloejgoacaaaGreatDoor
namespace Go.Proofs.YtdhmloejgoacaaaGreatDoor
open Go.RowKit Go.Bl Go.Lq Go.Tq

theorem TqV.cells {w : World} {v : Value} {q : Tq} (h : TqV w v q) : ∃ A1 L1 C1 A2 L2 C2, v = .agg (QC q (.slice A1 L1 C1) (.slice A2 L2 C2)) ∧ Mts w (.slice A1 L1 C1) q.first.mat ∧ Mts w (.slice A2 L2 C2) q.second.mat := by
  obtain ⟨m1, m2, rfl, h1, h2⟩ := h
  have h1' := h1
  have h2' := h2
  obtain ⟨A1, C1, rfl, _⟩ := h1
  obtain ⟨A2, C2, rfl, _⟩ := h2
  exact ⟨A1, _, C1, A2, _, C2, rfl, h1', h2'⟩
set_option maxRecDepth 100000 in
set_option maxHeartbeats 4000000 in
theorem knownT_any (w : World) (hG : GV w) (h8 : 8 ≤ w.heap.size) : Calls Tryz.prog 25 #[] w fun e w' => e = .returned (.bool true) ∧ Fr [] w w' := by
  have hp1 := parseT_any ⟨tknown1.toArray⟩ w hG (.inr (by rw [show (ByteArray.mk tknown1.toArray).data.toList = tknown1 from rfl, ← ttext]; exact limOk_text tfine)) h8
  go_enter Tryz.func25, Tryz.ntmps25
  go_wp2_with fail
  refine hp1.mono ?_
  rintro e w1 ⟨v1, n1, rfl, hv1, hF1, _⟩
  clear hp1
  rw [show (ByteArray.mk tknown1.toArray).data.toList = tknown1 from rfl, tparse1] at hv1 ⊢
  dsimp only at hv1 ⊢
  obtain ⟨A1, L1, C1, A2, L2, C2, rfl, hm1, hm2⟩ := hv1.cells
  obtain ⟨B, hB⟩ : ∃ B, w1.heap.size = B := ⟨_, rfl⟩
  obtain ⟨WB, hWB⟩ : ∃ WB, w1.alloc (.cells (QC tknownQ (.slice A1 L1 C1) (.slice A2 L2 C2)) 47) = WB := ⟨_, rfl⟩
  have hFB : Fr [] w1 WB := by rw [← hWB]; exact (Fr.refl _ _).alloc _
  have hB1 : WB.heap[B]? = some (.cells (QC tknownQ (.slice A1 L1 C1) (.slice A2 L2 C2)) 47 (0, 0)) := by rw [← hWB, ← hB]; exact Go.Bl.heap_alloc w1 _
  have hFw := hF1.trans hFB
  have hp2 := parseT_any ⟨tknown2.toArray⟩ WB (hG.frn hFw h8) (.inr (limOk_none thas2)) (Nat.le_trans h8 hFw.size)
  have HM := Lib.hid (And.intro (hm1.fr hFB) (And.intro (hm2.fr hFB) (And.intro hB1 hFw)))
  clear hv1 hm1 hm2 hFB hB1 hFw hF1
  unfold QC at hWB
  unfold QC
  go_wp2_with fail
  (try rw [hWB])
  go_wp2_with fail
  (try rw [hWB])
  refine hp2.mono ?_
  rintro e w2 ⟨v2, n2, rfl, hv2, hF2, hn2⟩
  clear hp2
  rw [show (ByteArray.mk tknown2.toArray).data.toList = tknown2 from rfl, tparse2] at hv2 ⊢
  dsimp only at hv2 ⊢
  obtain rfl : n2 = 10 := hn2 tend2 (by decide)
  obtain ⟨A3, L3, C3, A4, L4, C4, rfl, _, _⟩ := hv2.cells
  obtain ⟨WC, hWC⟩ : ∃ WC, w2.alloc (.cells (QC zeroT (.slice A3 L3 C3) (.slice A4 L4 C4)) 47) = WC := ⟨_, rfl⟩
  have hFC : Fr [] WB WC := hF2.trans (by rw [← hWC]; exact (Fr.refl _ _).alloc _)
  have hb := hFC.obj HM.out.2.2.1 (by simp)
  have q0 := cell_of hb 0
  have q1 := cell_of hb 1
  have q2 := cell_of hb 2
  have q3 := cell_of hb 3
  have q4 := cell_of hb 4
  have q5 := cell_of hb 5
  have q6 := cell_of hb 6
  have q7 := cell_of hb 7
  unfold QC at q0 q1 q2 q3 q4 q5 q6 q7
  simp only [List.getElem?_toArray, List.getElem?_cons_zero, List.getElem?_cons_succ] at q0 q1 q2 q3 q4 q5 q6 q7
  have hFw2 := HM.out.2.2.2.trans hFC
  have hpr := printT_any tknownQ _ WC (hG.frn hFw2 h8) (Nat.le_trans h8 hFw2.size) ⟨_, _, rfl, HM.out.1.fr hFC, HM.out.2.1.fr hFC⟩
  have HF2 := Lib.hid (And.intro hFw2 hb)
  clear hF2 hFC hb hFw2 hn2 hv2
  unfold QC at hWC
  unfold QC
  go_wp2_with fail
  (try rw [hWC])
  go_wp2_with fail
  refine hpr.mono ?_
  rintro e w3 ⟨rfl, hF3⟩
  rw [tprint, tright]
  clear hpr q0 q1 q2 q3 q4 q5 q6 q7
  have hb := hF3.obj HF2.out.2 (by simp)
  have q1 := cell_of hb 1
  have q3 := cell_of hb 3
  have q6 := cell_of hb 6
  have q7 := cell_of hb 7
  unfold QC at q1 q3 q6 q7
  simp only [List.getElem?_toArray, List.getElem?_cons_zero, List.getElem?_cons_succ] at q1 q3 q6 q7
  have n1 : tknownQ.first.least = 5000000 := rfl
  have n2 : tknownQ.second.name = [113, 117, 101, 114, 121] := rfl
  have n3 : tknownQ.has = 2 := rfl
  have n4 : tknownQ.limit = 10 := rfl
  have HF3 := Lib.hid (HF2.out.1.trans hF3)
  rw [n1] at q1
  rw [n2] at q3
  rw [n3] at q6
  rw [n4] at q7
  clear hF3 hb hWC hWB
  go_wp2_with fail
  go_ret
  exact ⟨rfl, HF3.out⟩
end Go.Proofs.YtdhmloejgoacaaaGreatDoor
