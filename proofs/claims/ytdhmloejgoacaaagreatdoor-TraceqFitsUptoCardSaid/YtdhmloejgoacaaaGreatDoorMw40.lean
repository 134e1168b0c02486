/- traceq.Print: a query's text, or what is wrong. -/
import Derived.Test.YtdhmloejgoacaaaGreatDoorTqRight
import Derived.Test.YtdhmloejgoacaaaGreatDoorTqTest
import Derived.Test.YtdhmloejgoacaaaGreatDoorTqRText
import Derived.Test.YtdhmloejgoacaaaGreatDoorMw37
set_option linter.unusedVariables false
set_option linter.unusedSimpArgs false
namespace Go.Proofs.YtdhmloejgoacaaaGreatDoor
open Go.RowKit Go.Bl Go.Lq Go.Tq

theorem rightT_ok {V : Bs → Bool} {q : Tq} (h : rightT V q = 0) : TOk q := by
  unfold rightT at h
  split at h
  · rename_i h1; exact absurd h h1
  · rename_i h1
    split at h
    · rename_i h2; exact absurd h h2
    · rename_i h2
      split at h
      · cases h
      · rename_i h3
        exact TOk.of (by simpa using h1) (by simpa using h2) (by omega) (by omega)
def printTP (q : Tq) : Bs := if rightT Lib.validD q = 0 then textT q else []
def PrPost (q : Tq) (w : World) (e : Ending) (w' : World) : Prop := e = .returned (.tuple #[.string ⟨(printTP q).toArray⟩, .int .i64 (rightT Lib.validD q)]) ∧ Fr [] w w'
set_option maxRecDepth 100000 in
set_option maxHeartbeats 1000000 in
theorem printT_any (q : Tq) (v : Value) (w : World) (hG : GV w) (h8 : 8 ≤ w.heap.size) (hv : TqV w v q) :
    Calls Tryz.prog 26 #[v] w (PrPost q w) := by
  obtain ⟨m1, m2, rfl, hm1, hm2⟩ := hv
  obtain ⟨A1, L1, C1, rfl⟩ : ∃ A L C, m1 = .slice A L C := by obtain ⟨A, c, e, _⟩ := hm1; exact ⟨A, _, c, e⟩
  obtain ⟨A2, L2, C2, rfl⟩ : ∃ A L C, m2 = .slice A L C := by obtain ⟨A, c, e, _⟩ := hm2; exact ⟨A, _, c, e⟩
  obtain ⟨X, hX⟩ : ∃ X, w.heap.size = X := ⟨_, rfl⟩
  have hF0 : Fr [] w (w.alloc (.cells (QC q (.slice A1 L1 C1) (.slice A2 L2 C2)) 47)) := (Fr.refl _ _).alloc _
  have hX0 := Go.Bl.heap_alloc w (.cells (QC q (.slice A1 L1 C1) (.slice A2 L2 C2)) 47)
  obtain ⟨w0, hw0⟩ : ∃ w0, w.alloc (.cells (QC q (.slice A1 L1 C1) (.slice A2 L2 C2)) 47) = w0 := ⟨_, rfl⟩
  rw [hw0, hX] at hX0
  rw [hw0] at hF0
  go_enter Tryz.func26, Tryz.ntmps26
  go_upto_region 1 with fail
  unfold QC at hw0
  rw [hw0]
  (try rw [hX])
  clear hw0
  have q0 := cell_of hX0 0
  have q1 := cell_of hX0 1
  have q2 := cell_of hX0 2
  have q3 := cell_of hX0 3
  have q4 := cell_of hX0 4
  have q5 := cell_of hX0 5
  have q6 := cell_of hX0 6
  have q7 := cell_of hX0 7
  unfold QC at q0 q1 q2 q3 q4 q5 q6 q7
  simp only [List.getElem?_toArray, List.getElem?_cons_zero, List.getElem?_cons_succ] at q0 q1 q2 q3 q4 q5 q6 q7
  go_wp2_with fail
  refine (rightT_any q _ w0 (hG.frn hF0 h8) (Nat.le_trans h8 hF0.size) ⟨_, _, rfl, hm1.fr hF0, hm2.fr hF0⟩).mono ?_
  rintro e w1 ⟨rfl, hF1⟩
  obtain ⟨n, hn⟩ : ∃ n, rightT Lib.validD q = n := ⟨_, rfl⟩
  rw [hn]
  have HN := Lib.hid hn
  clear hn
  have hF01 := hF0.trans hF1
  by_cases h0 : n = 0
  · subst h0
    have hX1 := hF1.obj hX0 (by simp)
    clear q0 q1 q2 q3 q4 q5 q6 q7
    have q0 := cell_of hX1 0
    have q1 := cell_of hX1 1
    have q2 := cell_of hX1 2
    have q3 := cell_of hX1 3
    have q4 := cell_of hX1 4
    have q5 := cell_of hX1 5
    have q6 := cell_of hX1 6
    have q7 := cell_of hX1 7
    unfold QC at q0 q1 q2 q3 q4 q5 q6 q7
    simp only [List.getElem?_toArray, List.getElem?_cons_zero, List.getElem?_cons_succ] at q0 q1 q2 q3 q4 q5 q6 q7
    go_wp2_with fail
    refine (textT_any q _ w1 (hG.frn hF01 h8) (Nat.le_trans h8 hF01.size) ⟨_, _, rfl, hm1.fr hF01, hm2.fr hF01⟩ (rightT_ok HN.out)).mono ?_
    rintro e w2 ⟨rfl, hF2⟩
    go_wp2_with fail
    go_ret2
    refine ⟨?_, hF01.trans hF2⟩
    unfold printTP
    rw [HN.out, if_pos rfl]
    rfl
  · have h1 : (n != 0) = true := by simpa using h0
    have HN0 := Lib.hid h0
    clear h0
    go_wp2_with fail
    go_ret2
    refine ⟨?_, hF01⟩
    unfold printTP
    rw [HN.out, if_neg HN0.out]
    rfl
end Go.Proofs.YtdhmloejgoacaaaGreatDoor
namespace Go.Proofs.YtdhmloejgoacaaaGreatDoor
open Go.RowKit Go.Bl Go.Lq Go.Tq

def PWS (W : Bs) (b Q : Nat) (s : ByteArray) (E : Prop) (res : Option (Tq × Bs)) (w : World) (e : Ending) (w' : World) : Prop :=
  ∃ v : Bool, e = .returned (.bool v) ∧ Fr [b, Q] w w' ∧ ((v = true ∧ ∃ t l, res = some (t, l) ∧ wordL l = W ∧ Stp b Q s E (some (t, (skipL l).drop W.length)) w') ∨
    (v = false ∧ (∀ t l, res = some (t, l) → wordL l ≠ W) ∧ Stp b Q s (res = none ∧ E) (res.map fun p => (p.1, skipL p.2)) w'))
theorem perW {W : ByteArray} {b Q S : Nat} {s : ByteArray} {E : Prop} {res : Option (Tq × Bs)} {w : World} (hst : Stp b Q s E res w)
    (hS : w.heap[S]? = some (.cells #[.iface 85 (.string W)] 128 (0, 0))) (hbS : b ≠ S) (hbQ : b ≠ Q) :
    Calls Tryz.prog 63 #[ptr b, .slice (some ⟨S, 0, none⟩) 1 1] w (PWS W.data.toList b Q s E res w) := by
  have hq : ∀ {t w'} {l : Bs} {d : Bool}, Ar 84 w b s l d → QAt w Q t → Fr [b] w w' → QAt w' Q t := fun hA ⟨v1, v2, h1, h2, h3⟩ hF =>
    ⟨v1, v2, hF.obj h1 (by simpa using hbQ.symm), mts_keep hA h1 h2 h3 (fr2 hF) h2, mts_keep hA h1 h2 h3 (fr2 hF) h3⟩
  cases res with
  | none =>
    obtain ⟨t, r, h1, hA, hE⟩ := hst
    refine (perhapsW_any W b S s r true w hA hS hbS).mono ?_
    rintro e w' ⟨rfl, hF, hx⟩
    rw [if_neg (by simp)] at hx
    exact ⟨false, rfl, fr2 hF, .inr ⟨rfl, (fun _ _ h => by cases h), t, skipL r, hq hA h1 hF, hx, fun h => skip_nil (hE h.2)⟩⟩
  | some x =>
    obtain ⟨t, r⟩ := x
    obtain ⟨h1, hA⟩ := hst
    refine (perhapsW_any W b S s r false w hA hS hbS).mono ?_
    rintro e w' ⟨rfl, hF, hx⟩
    by_cases hw : wordL r = W.data.toList
    · rw [if_pos (by simp [hw])] at hx
      exact ⟨true, by simp [hw], fr2 hF, .inl ⟨rfl, t, r, rfl, hw, hq hA h1 hF, hx⟩⟩
    · rw [if_neg (by simp [hw])] at hx
      exact ⟨false, by simp [hw], fr2 hF, .inr ⟨rfl, (fun _ _ h => by cases h; exact hw), hq hA h1 hF, hx⟩⟩
theorem Stp.set {b Q o : Nat} {s : ByteArray} {E : Prop} {t t' : Tq} {l : Bs} {w : World} {x : Value} (h : Stp b Q s E (some (t, l)) w) (hbQ : b ≠ Q)
    (hput : ∀ v1 v2, (QC t v1 v2).setIfInBounds o x = QC t' v1 v2) (hm : t'.first.mat = t.first.mat ∧ t'.second.mat = t.second.mat) : Stp b Q s E (some (t', l)) (w.setCell ⟨Q, o, none⟩ x) := by
  obtain ⟨⟨v1, v2, h1, h2, h3⟩, hA⟩ := h
  have hF : Fr [b, Q] w (w.setCell ⟨Q, o, none⟩ x) := (Fr.refl _ _).setCell (.inl (by simp)) _
  refine ⟨⟨v1, v2, ?_, ?_, ?_⟩, ⟨by rw [heap_setCell_ne hbQ]; exact hA.cells, hA.suf, hA.short⟩⟩
  · rw [← hput]
    exact heap_setCell h1 o x
  · rw [hm.1]; exact mts_keep hA h1 h2 h3 hF h2
  · rw [hm.2]; exact mts_keep hA h1 h2 h3 hF h3
theorem Stp.bad {b Q : Nat} {s : ByteArray} {E : Prop} {t : Tq} {l : Bs} {w : World} (h : Stp b Q s E (some (t, l)) w) (hbQ : b ≠ Q) : Stp b Q s (l = []) none (w.setCell ⟨b, 2, none⟩ (.bool true)) := by
  obtain ⟨⟨v1, v2, h1, h2, h3⟩, hA⟩ := h
  have hF : Fr [b, Q] w (w.setCell ⟨b, 2, none⟩ (.bool true)) := (Fr.refl _ _).setCell (.inl (by simp)) _
  exact ⟨t, l, ⟨v1, v2, by rw [heap_setCell_ne hbQ.symm]; exact h1, mts_keep hA h1 h2 h3 hF h2, mts_keep hA h1 h2 h3 hF h3⟩, hA.flag true, id⟩
/-- With what stands behind 'with'. -/
def hasRes (res : Option (Tq × Bs)) : Option (Tq × Bs) := res.bind fun p => (readHas p.2).map fun y => ({ p.1 with has := y.1, second := y.2.1 }, y.2.2)
def kindRes (t : Tq) (l : Bs) : Option (Tq × Bs) := (readKind l).map fun y => ({ t with has := y.1 }, y.2)
theorem hasRes_with {t : Tq} {l : Bs} (h : wordL l = wWith) : bindQ (kindRes t ((skipL l).drop wWith.length)) putSecond readTest = hasRes (some (t, l)) := by
  unfold hasRes kindRes readHas
  simp only [Option.bind_some]
  rw [if_pos h]
  cases readKind ((skipL l).drop wWith.length) with
  | none => rfl
  | some y =>
    obtain ⟨k, l1⟩ := y
    simp only [Option.map_some]
    rw [bindQ_some]
    cases readTest l1 with
    | none => rfl
    | some z => rfl
theorem hasRes_not {res : Option (Tq × Bs)} (hz : ∀ t l, res = some (t, l) → t.has = 0 ∧ t.second = emptySt) (h : ∀ t l, res = some (t, l) → wordL l ≠ wWith) : hasRes res = res.map fun p => (p.1, skipL p.2) := by
  cases res with
  | none => rfl
  | some p =>
    obtain ⟨t, l⟩ := p
    obtain ⟨h1, h2⟩ := hz t l rfl
    unfold hasRes readHas
    simp only [Option.bind_some, Option.map_some]
    rw [if_neg (h t l rfl)]
    simp only [Option.map_some]
    cases t
    simp only at h1 h2
    subst h1 h2
    rfl
theorem hasRes_limit {r1 : Option (Tq × Bs)} {t : Tq} {r : Bs} (h : hasRes r1 = some (t, r)) (hz : ∀ t l, r1 = some (t, l) → t.limit = 0) : t.limit = 0 := by
  cases r1 with
  | none => cases h
  | some p =>
    obtain ⟨t0, l0⟩ := p
    unfold hasRes at h
    simp only [Option.bind_some] at h
    cases hh : readHas l0 with
    | none => rw [hh] at h; cases h
    | some y =>
      rw [hh] at h
      simp only [Option.map_some, Option.some.injEq, Prod.mk.injEq] at h
      obtain ⟨rfl, _⟩ := h
      exact hz t0 l0 rfl
/-- 'with' stands at the text's end. -/
def WithEnd (r1 : Option (Tq × Bs)) : Prop := ∃ t l1, r1 = some (t, l1) ∧ wordL l1 = wWith ∧ (skipL l1).drop wWith.length = []
theorem WithEnd.two {r1 : Option (Tq × Bs)} {t : Tq} {l1 l2 : Bs} (h : WithEnd r1) (hr : r1 = some (t, l1)) (hl : (skipL l1).drop wWith.length = l2) : l2 = [] := by
  obtain ⟨t', l', h1, _, h3⟩ := h
  rw [hr] at h1
  cases h1
  rw [← hl]
  exact h3
def putLimit (t : Tq) (x : Int) : Tq := { t with limit := x }
def startRes (l : Bs) : Option (Tq × Bs) := (readWord wSpans l).map fun r => (zeroT, r)
def endRes (l : Bs) : Option (Tq × Bs) := bindQ (hasRes (bindQ (startRes l) putFirst readTest)) putLimit (readX wLimit readCount 0)
/-- Where 'limit' stands, a number stands behind it that Atoi reads. -/
def LimOk (l : Bs) : Prop := ∀ t r, hasRes (bindQ (startRes l) putFirst readTest) = some (t, r) → wordL r = wLimit → ∃ v, Lib.atoiAll (wordL ((skipL r).drop wLimit.length)) = .ok v
def EndAt (l : Bs) : Prop := hasRes (bindQ (startRes l) putFirst readTest) = none ∧ WithEnd (bindQ (startRes l) putFirst readTest)
theorem EndAt.none {l : Bs} (h : EndAt l) : endRes l = none := by
  unfold endRes
  rw [h.1]
  rfl
theorem readAll_end (l : Bs) : readAll l = match endRes l with
    | none => none
    | some (t, r) => if skipL r = [] then some t else none := by
  unfold readAll endRes startRes
  cases readWord wSpans l with
  | none => rfl
  | some l0 =>
    simp only [Option.map_some]
    rw [bindQ_some]
    cases readTest l0 with
    | none => rfl
    | some a =>
      obtain ⟨f, l1⟩ := a
      simp only [Option.map_some]
      unfold hasRes
      simp only [Option.bind_some]
      cases readHas l1 with
      | none => rfl
      | some c =>
        obtain ⟨h, x, l2⟩ := c
        simp only [Option.map_some]
        rw [bindQ_some, show readX wLimit readCount 0 l2 = readLimit l2 from rfl]
        cases readLimit l2 with
        | none => rfl
        | some e =>
          obtain ⟨n, l3⟩ := e
          rfl
end Go.Proofs.YtdhmloejgoacaaaGreatDoor
namespace Go.Proofs.YtdhmloejgoacaaaGreatDoor
open Go.RowKit Go.Bl Go.Lq Go.Tq

set_option maxRecDepth 100000 in
set_option maxHeartbeats 4000000 in
theorem rightTR_any (q : Tq) (v : Value) (w : World) (hG : GV w) (h8 : 8 ≤ w.heap.size) (hv : TqV w v q) :
    Calls Tryz.prog 30 #[v] w (RiPost q w) := by
  obtain ⟨m1, m2, rfl, hm1, hm2⟩ := hv
  obtain ⟨A1, L1, C1, rfl⟩ : ∃ A L C, m1 = .slice A L C := by obtain ⟨A, c, e, _⟩ := hm1; exact ⟨A, _, c, e⟩
  obtain ⟨A2, L2, C2, rfl⟩ : ∃ A L C, m2 = .slice A L C := by obtain ⟨A, c, e, _⟩ := hm2; exact ⟨A, _, c, e⟩
  obtain ⟨X, hX⟩ : ∃ X, w.heap.size = X := ⟨_, rfl⟩
  have hF0 : Fr [] w (w.alloc (.cells (QC q (.slice A1 L1 C1) (.slice A2 L2 C2)) 47)) := (Fr.refl _ _).alloc _
  have hX0 := Go.Bl.heap_alloc w (.cells (QC q (.slice A1 L1 C1) (.slice A2 L2 C2)) 47)
  obtain ⟨w0, hw0⟩ : ∃ w0, w.alloc (.cells (QC q (.slice A1 L1 C1) (.slice A2 L2 C2)) 47) = w0 := ⟨_, rfl⟩
  rw [hw0, hX] at hX0
  rw [hw0] at hF0
  have hr1 := fun W (hW : Fr [] w W) => rightTestR_any q.first _ W (hG.frn hW h8) (Nat.le_trans h8 hW.size) (hm1.fr hW)
  have hr2 := fun W (hW : Fr [] w W) => rightTestR_any q.second _ W (hG.frn hW h8) (Nat.le_trans h8 hW.size) (hm2.fr hW)
  go_enter Tryz.func30, Tryz.ntmps30
  go_upto_region 1 with fail
  unfold QC at hw0
  rw [hw0]
  (try rw [hX])
  clear hw0
  have q0 := cell_of hX0 0
  have q1 := cell_of hX0 1
  have q2 := cell_of hX0 2
  have q3 := cell_of hX0 3
  have q4 := cell_of hX0 4
  have q5 := cell_of hX0 5
  have q6 := cell_of hX0 6
  have q7 := cell_of hX0 7
  unfold QC at q0 q1 q2 q3 q4 q5 q6 q7
  simp only [List.getElem?_toArray, List.getElem?_cons_zero, List.getElem?_cons_succ] at q0 q1 q2 q3 q4 q5 q6 q7
  go_wp2_with fail
  refine (hr1 _ hF0).mono ?_
  rintro e wa ⟨rfl, hFa⟩
  obtain ⟨n1, hn1⟩ : ∃ n, wrongS Lib.validD q.first = n := ⟨_, rfl⟩
  rw [hn1]
  have HN1 := Lib.hid hn1
  have hXa := hFa.obj hX0 (by simp)
  have hF0a := hF0.trans hFa
  clear hn1 q0 q1 q2 q3 q4 q5 q6 q7 hX0 hF0 hFa hr1
  by_cases h1 : n1 = 0
  case neg =>
    have h1b : (n1 != 0) = true := by simpa using h1
    have hr : rightT Lib.validD q = n1 := by unfold rightT; rw [if_pos (by rw [HN1.out]; exact h1), HN1.out]
    have HR := Lib.hid hr
    clear hr h1
    go_wp2_with fail
    go_ret
    exact ⟨by rw [HR.out]; rfl, hF0a⟩
  subst h1
  have q0 := cell_of hXa 0
  have q1 := cell_of hXa 1
  have q2 := cell_of hXa 2
  have q3 := cell_of hXa 3
  have q4 := cell_of hXa 4
  have q5 := cell_of hXa 5
  have q6 := cell_of hXa 6
  have q7 := cell_of hXa 7
  unfold QC at q0 q1 q2 q3 q4 q5 q6 q7
  simp only [List.getElem?_toArray, List.getElem?_cons_zero, List.getElem?_cons_succ] at q0 q1 q2 q3 q4 q5 q6 q7
  go_wp2_with fail
  refine (hr2 _ hF0a).mono ?_
  rintro e wb ⟨rfl, hFb⟩
  obtain ⟨n2, hn2⟩ : ∃ n, wrongS Lib.validD q.second = n := ⟨_, rfl⟩
  rw [hn2]
  have HN2 := Lib.hid hn2
  have hX1 := hFb.obj hXa (by simp)
  have hF := hF0a.trans hFb
  clear hn2 q0 q1 q2 q3 q4 q5 q6 q7 hXa hF0a hFb hr2
  by_cases h2 : n2 = 0
  case neg =>
    have h1b : (n2 != 0) = true := by simpa using h2
    have hr : rightT Lib.validD q = n2 := by unfold rightT; rw [if_neg (by rw [HN1.out]; simp), if_pos (by rw [HN2.out]; exact h2), HN2.out]
    have HR := Lib.hid hr
    clear hr h2
    go_wp2_with fail
    go_ret
    exact ⟨by rw [HR.out]; rfl, hF⟩
  subst h2
  have q0 := cell_of hX1 0
  have q1 := cell_of hX1 1
  have q2 := cell_of hX1 2
  have q3 := cell_of hX1 3
  have q4 := cell_of hX1 4
  have q5 := cell_of hX1 5
  have q6 := cell_of hX1 6
  have q7 := cell_of hX1 7
  unfold QC at q0 q1 q2 q3 q4 q5 q6 q7
  simp only [List.getElem?_toArray, List.getElem?_cons_zero, List.getElem?_cons_succ] at q0 q1 q2 q3 q4 q5 q6 q7
  have hr : rightT Lib.validD q = if q.has < 0 ∨ 2 < q.has ∨ q.limit < 0 ∨ 1000 < q.limit then 1 else if q.has = 0 ∧ q.second ≠ emptySt then 3 else if 1024 < (textT q).length then 4 else 0 := by
    unfold rightT
    rw [if_neg (by simp [HN1.out]), if_neg (by simp [HN2.out])]
  have HR := Lib.hid hr
  clear hr
  by_cases k1 : q.has < 0
  · have hr : rightT Lib.validD q = 1 := by rw [HR.out, if_pos (.inl k1)]
    have HR1 := Lib.hid hr
    clear hr
    go_wp2_with fail
    go_ret
    exact ⟨by rw [HR1.out]; rfl, hF⟩
  by_cases k2 : q.has > 2
  · have hr : rightT Lib.validD q = 1 := by rw [HR.out, if_pos (.inr (.inl k2))]
    have HR1 := Lib.hid hr
    clear hr
    go_wp2_with fail
    go_ret
    exact ⟨by rw [HR1.out]; rfl, hF⟩
  by_cases k3 : q.limit < 0
  · have hr : rightT Lib.validD q = 1 := by rw [HR.out, if_pos (.inr (.inr (.inl k3)))]
    have HR1 := Lib.hid hr
    clear hr
    go_wp2_with fail
    go_ret
    exact ⟨by rw [HR1.out]; rfl, hF⟩
  by_cases k4 : q.limit > 1000
  · have hr : rightT Lib.validD q = 1 := by rw [HR.out, if_pos (.inr (.inr (.inr k4)))]
    have HR1 := Lib.hid hr
    clear hr
    go_wp2_with fail
    go_ret
    exact ⟨by rw [HR1.out]; rfl, hF⟩
  have hok : TOk q := TOk.of HN1.out HN2.out (by omega) (by omega)
  have hr : rightT Lib.validD q = if q.has = 0 ∧ q.second ≠ emptySt then 3 else if 1024 < (textT q).length then 4 else 0 := by
    rw [HR.out, if_neg (by omega)]
  have HR2 := Lib.hid hr
  have HOK := Lib.hid hok
  clear hr hok
  have hsame : ∀ W, Fr [] wb W → Calls Tryz.prog 65 #[.agg #[.string ⟨q.second.name.toArray⟩, .int .i64 q.second.least, (.slice A2 L2 C2)], .agg #[.string ⟨#[]⟩, .int .i64 0, .slice none 0 0]] W fun e w' => e = .returned (.bool (decide (q.second = emptySt))) ∧ Fr [] W w' := fun W hW =>
    sameTestR_any q.second emptySt _ _ W ⟨(.slice A2 L2 C2), rfl, (hm2.fr hF).fr hW⟩ (st_zero W) (by have := HOK.out.s2.1; omega)
  have htext : ∀ W, Fr [] wb W → Calls Tryz.prog 67 #[.agg #[.string ⟨q.first.name.toArray⟩, .int .i64 q.first.least, (.slice A1 L1 C1), .string ⟨q.second.name.toArray⟩, .int .i64 q.second.least, (.slice A2 L2 C2), .int .i64 q.has, .int .i64 q.limit]] W fun e w' => e = .returned (.string ⟨(textT q).toArray⟩) ∧ Fr [] W w' := fun W hW =>
    textTR_any q _ W ((hG.frn hF h8).frn hW (Nat.le_trans h8 hF.size)) (Nat.le_trans (Nat.le_trans h8 hF.size) hW.size) ⟨(.slice A1 L1 C1), (.slice A2 L2 C2), rfl, (hm1.fr hF).fr hW, (hm2.fr hF).fr hW⟩ HOK.out
  by_cases k5 : q.has = 0
  · have hh1 : (q.has == 0) = true := by rw [k5]; rfl
    obtain ⟨e0, he0⟩ : ∃ e0, decide (q.second = emptySt) = e0 := ⟨_, rfl⟩
    rw [he0] at hsame
    have HE0 := Lib.hid (And.intro k5 he0)
    clear k5 he0
    go_wp2_with fail
    refine (hsame _ (Fr.refl _ _)).mono ?_
    rintro e w6 ⟨rfl, hF6⟩
    cases e0
    · have hr : rightT Lib.validD q = 3 := by rw [HR2.out, if_pos ⟨HE0.out.1, by simpa using HE0.out.2⟩]
      have HR1 := Lib.hid hr
      clear hr
      go_wp2_with fail
      go_ret
      exact ⟨by rw [HR1.out]; rfl, hF.trans hF6⟩
    · have hX6 := hF6.obj hX1 (by simp)
      have hr : rightT Lib.validD q = if 1024 < (textT q).length then 4 else 0 := by rw [HR2.out, if_neg (by rintro ⟨_, h⟩; exact h (by simpa using HE0.out.2))]
      have HR1 := Lib.hid hr
      clear hr q0 q1 q2 q3 q4 q5 q6 q7
      have q0 := cell_of hX6 0
      have q1 := cell_of hX6 1
      have q2 := cell_of hX6 2
      have q3 := cell_of hX6 3
      have q4 := cell_of hX6 4
      have q5 := cell_of hX6 5
      have q6 := cell_of hX6 6
      have q7 := cell_of hX6 7
      unfold QC at q0 q1 q2 q3 q4 q5 q6 q7
      simp only [List.getElem?_toArray, List.getElem?_cons_zero, List.getElem?_cons_succ] at q0 q1 q2 q3 q4 q5 q6 q7
      go_wp2_with fail
      refine (htext _ hF6).mono ?_
      rintro e w7 ⟨rfl, hF7⟩
      have hF9 := (hF.trans hF6).trans hF7
      obtain ⟨Y, hY⟩ : ∃ Y : ByteArray, (⟨(textT q).toArray⟩ : ByteArray) = Y := ⟨_, rfl⟩
      have hYs : Y.size = (textT q).length := by rw [← hY]; simp [ByteArray.size]
      rw [hY]
      rw [← hYs] at HR1
      by_cases k6 : 1024 < Y.size
      · have k7 : (Y.size : Int) > 1024 := by omega
        have HR3 := Lib.hid (by rw [HR1.out, if_pos k6] : rightT Lib.validD q = 4)
        clear k6 hYs
        go_wp2_with fail
        go_ret
        exact ⟨by rw [HR3.out]; rfl, hF9⟩
      · have k7 : ¬ (Y.size : Int) > 1024 := by omega
        have HR3 := Lib.hid (by rw [HR1.out, if_neg k6] : rightT Lib.validD q = 0)
        clear k6 hYs
        go_wp2_with fail
        go_ret
        exact ⟨by rw [HR3.out]; rfl, hF9⟩
  · have hh1 : (q.has == 0) = false := by simpa using k5
    have hr : rightT Lib.validD q = if 1024 < (textT q).length then 4 else 0 := by rw [HR2.out, if_neg (by rintro ⟨h, _⟩; exact k5 h)]
    have HR1 := Lib.hid hr
    clear hr k5
    go_wp2_with fail
    refine (htext _ (Fr.refl _ _)).mono ?_
    rintro e w7 ⟨rfl, hF7⟩
    have hF9 := hF.trans hF7
    obtain ⟨Y, hY⟩ : ∃ Y : ByteArray, (⟨(textT q).toArray⟩ : ByteArray) = Y := ⟨_, rfl⟩
    have hYs : Y.size = (textT q).length := by rw [← hY]; simp [ByteArray.size]
    rw [hY]
    rw [← hYs] at HR1
    by_cases k6 : 1024 < Y.size
    · have k7 : (Y.size : Int) > 1024 := by omega
      have HR3 := Lib.hid (by rw [HR1.out, if_pos k6] : rightT Lib.validD q = 4)
      clear k6 hYs
      go_wp2_with fail
      go_ret
      exact ⟨by rw [HR3.out]; rfl, hF9⟩
    · have k7 : ¬ (Y.size : Int) > 1024 := by omega
      have HR3 := Lib.hid (by rw [HR1.out, if_neg k6] : rightT Lib.validD q = 0)
      clear k6 hYs
      go_wp2_with fail
      go_ret
      exact ⟨by rw [HR3.out]; rfl, hF9⟩
set_option maxRecDepth 100000 in
set_option maxHeartbeats 1000000 in
theorem printTR_any (q : Tq) (v : Value) (w : World) (hG : GV w) (h8 : 8 ≤ w.heap.size) (hv : TqV w v q) :
    Calls Tryz.prog 28 #[v] w (PrPost q w) := by
  obtain ⟨m1, m2, rfl, hm1, hm2⟩ := hv
  obtain ⟨A1, L1, C1, rfl⟩ : ∃ A L C, m1 = .slice A L C := by obtain ⟨A, c, e, _⟩ := hm1; exact ⟨A, _, c, e⟩
  obtain ⟨A2, L2, C2, rfl⟩ : ∃ A L C, m2 = .slice A L C := by obtain ⟨A, c, e, _⟩ := hm2; exact ⟨A, _, c, e⟩
  obtain ⟨X, hX⟩ : ∃ X, w.heap.size = X := ⟨_, rfl⟩
  have hF0 : Fr [] w (w.alloc (.cells (QC q (.slice A1 L1 C1) (.slice A2 L2 C2)) 47)) := (Fr.refl _ _).alloc _
  have hX0 := Go.Bl.heap_alloc w (.cells (QC q (.slice A1 L1 C1) (.slice A2 L2 C2)) 47)
  obtain ⟨w0, hw0⟩ : ∃ w0, w.alloc (.cells (QC q (.slice A1 L1 C1) (.slice A2 L2 C2)) 47) = w0 := ⟨_, rfl⟩
  rw [hw0, hX] at hX0
  rw [hw0] at hF0
  go_enter Tryz.func28, Tryz.ntmps28
  go_upto_region 1 with fail
  unfold QC at hw0
  rw [hw0]
  (try rw [hX])
  clear hw0
  have q0 := cell_of hX0 0
  have q1 := cell_of hX0 1
  have q2 := cell_of hX0 2
  have q3 := cell_of hX0 3
  have q4 := cell_of hX0 4
  have q5 := cell_of hX0 5
  have q6 := cell_of hX0 6
  have q7 := cell_of hX0 7
  unfold QC at q0 q1 q2 q3 q4 q5 q6 q7
  simp only [List.getElem?_toArray, List.getElem?_cons_zero, List.getElem?_cons_succ] at q0 q1 q2 q3 q4 q5 q6 q7
  go_wp2_with fail
  refine (rightTR_any q _ w0 (hG.frn hF0 h8) (Nat.le_trans h8 hF0.size) ⟨_, _, rfl, hm1.fr hF0, hm2.fr hF0⟩).mono ?_
  rintro e w1 ⟨rfl, hF1⟩
  obtain ⟨n, hn⟩ : ∃ n, rightT Lib.validD q = n := ⟨_, rfl⟩
  rw [hn]
  have HN := Lib.hid hn
  clear hn
  have hF01 := hF0.trans hF1
  by_cases h0 : n = 0
  · subst h0
    have hX1 := hF1.obj hX0 (by simp)
    clear q0 q1 q2 q3 q4 q5 q6 q7
    have q0 := cell_of hX1 0
    have q1 := cell_of hX1 1
    have q2 := cell_of hX1 2
    have q3 := cell_of hX1 3
    have q4 := cell_of hX1 4
    have q5 := cell_of hX1 5
    have q6 := cell_of hX1 6
    have q7 := cell_of hX1 7
    unfold QC at q0 q1 q2 q3 q4 q5 q6 q7
    simp only [List.getElem?_toArray, List.getElem?_cons_zero, List.getElem?_cons_succ] at q0 q1 q2 q3 q4 q5 q6 q7
    go_wp2_with fail
    refine (textTR_any q _ w1 (hG.frn hF01 h8) (Nat.le_trans h8 hF01.size) ⟨_, _, rfl, hm1.fr hF01, hm2.fr hF01⟩ (rightT_ok HN.out)).mono ?_
    rintro e w2 ⟨rfl, hF2⟩
    go_wp2_with fail
    go_ret2
    refine ⟨?_, hF01.trans hF2⟩
    unfold printTP
    rw [HN.out, if_pos rfl]
    rfl
  · have h1 : (n != 0) = true := by simpa using h0
    have HN0 := Lib.hid h0
    clear h0
    go_wp2_with fail
    go_ret2
    refine ⟨?_, hF01⟩
    unfold printTP
    rw [HN.out, if_neg HN0.out]
    rfl
end Go.Proofs.YtdhmloejgoacaaaGreatDoor
