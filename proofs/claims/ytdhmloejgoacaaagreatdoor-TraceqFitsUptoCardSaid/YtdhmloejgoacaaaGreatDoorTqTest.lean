/- A test of a query is read. (Printed by gentest.py.) -/
import Derived.Test.YtdhmloejgoacaaaGreatDoorMw35
set_option linter.unusedVariables false
set_option linter.unusedSimpArgs false
namespace Go.Proofs.YtdhmloejgoacaaaGreatDoor
open Go.RowKit Go.Bl Go.Lq Go.Tq

theorem bindQ_mem {α : Type} {res : Option (Tq × Bs)} {put : Tq → α → Tq} {f : Bs → Option (α × Bs)} {t : Tq} {r : Bs} (h : bindQ res put f = some (t, r)) : ∃ t0 r0 x, res = some (t0, r0) ∧ t = put t0 x := by
  cases res with
  | none => cases h
  | some p =>
    obtain ⟨t0, r0⟩ := p
    rw [bindQ_some] at h
    cases hf : f r0 with
    | none => rw [hf] at h; cases h
    | some y =>
      rw [hf] at h
      simp only [Option.map_some, Option.some.injEq, Prod.mk.injEq] at h
      exact ⟨t0, r0, y.1, rfl, h.1.symm⟩
def TestPost (b Q : Nat) (s : ByteArray) (E : Prop) (res : Option (Tq × Bs)) (w : World) (e : Ending) (w' : World) : Prop :=
  e = .returned (.tuple #[]) ∧ Fr [b, Q] w w' ∧ Stp b Q s E res w'
def putFirstName (t : Tq) (x : Bs) : Tq := { t with first := { t.first with name := x } }
def putFirstLeast (t : Tq) (x : Int) : Tq := { t with first := { t.first with least := x } }
def putFirstMat (t : Tq) (x : List Mt) : Tq := { t with first := { t.first with mat := x } }
def putFirst (t : Tq) (x : St) : Tq := { t with first := x }
theorem test_plainFirst (res : Option (Tq × Bs)) :
    bindQ (bindQ (bindQ res putFirstName (readX wNamed readQuoted [])) putFirstLeast (readX wLeast readSpan 0)) putFirstMat readMats = bindQ res putFirst readTest := by
  cases res with
  | none => rfl
  | some p =>
    obtain ⟨t, r⟩ := p
    rw [bindQ_some, bindQ_some]
    unfold readTest
    rw [show readX wNamed readQuoted [] r = readNamed r from rfl]
    cases h1 : readNamed r with
    | none => rfl
    | some a =>
      obtain ⟨nm, l1⟩ := a
      simp only [Option.map_some]
      rw [bindQ_some, show readX wLeast readSpan 0 l1 = readLeast l1 from rfl]
      cases h2 : readLeast l1 with
      | none => rfl
      | some c =>
        obtain ⟨ls, l2⟩ := c
        simp only [Option.map_some]
        rw [bindQ_some]
        cases h3 : readMats l2 with
        | none => rfl
        | some e =>
          obtain ⟨ms, l3⟩ := e
          rfl
set_option maxRecDepth 100000 in
set_option maxHeartbeats 2000000 in
theorem testFirst_any (b Q : Nat) (s : ByteArray) (E : Prop) (res : Option (Tq × Bs)) (w : World) (hst : Stp b Q s E res w) (hz : ∀ t r, res = some (t, r) → t.first = emptySt) (hs : s.size ≤ 1024) (hG : GV w) (hb8 : 8 ≤ b) (hQ8 : 8 ≤ Q) (hbQ : b ≠ Q) :
    Calls Tryz.prog 62 #[ptr b, .pointer (some ⟨Q, 0, none⟩)] w (TestPost b Q s (res = none ∧ E) (bindQ res putFirst readTest) w) := by
  have h8 : 8 ≤ w.heap.size := by have := hst.lt; omega
  have hlt := hst.lt
  have hF0 : Fr [] w (w.alloc (.cells #[.iface 85 (.string ⟨#[110, 97, 109, 101, 100]⟩), .iface 118 (.agg #[.pointer (some ⟨Q, 0, none⟩)])] 128)) := (Fr.refl _ _).alloc _
  have hS0 := Go.Bl.heap_alloc w (.cells #[.iface 85 (.string ⟨#[110, 97, 109, 101, 100]⟩), .iface 118 (.agg #[.pointer (some ⟨Q, 0, none⟩)])] 128)
  obtain ⟨S0, hS0e⟩ : ∃ S0, w.heap.size = S0 := ⟨_, rfl⟩
  rw [hS0e] at hS0 hlt
  obtain ⟨w0, hw0⟩ : ∃ w0, w.alloc (.cells #[.iface 85 (.string ⟨#[110, 97, 109, 101, 100]⟩), .iface 118 (.agg #[.pointer (some ⟨Q, 0, none⟩)])] 128) = w0 := ⟨_, rfl⟩
  have hW0 : ∀ W : ByteArray, W = ⟨#[110, 97, 109, 101, 100]⟩ → W.data.toList = wNamed := by rintro W rfl; rfl
  have hW1 : ∀ W : ByteArray, W = ⟨#[108, 101, 97, 115, 116]⟩ → W.data.toList = wLeast := by rintro W rfl; rfl
  rw [hw0] at hF0 hS0
  have hst0 := hst.fr hF0
  have hG0 := hG.frn hF0 h8
  have hc1 : Calls Tryz.prog 63 #[ptr b, .slice (some ⟨S0, 0, none⟩) 2 2] w0 (StpPost b Q s (res = none ∧ E) (bindQ res putFirstName (readX wNamed readQuoted [])) w0) := by
    have := step2 (W := ⟨#[110, 97, 109, 101, 100]⟩) (o := 0) putFirstName (fun x => .string ⟨x.toArray⟩) [] readQuoted (fun t v1 v2 x => ⟨rfl, rfl, rfl⟩)
      (fun t r h => by have := hz t r h; cases t with | mk a1 a2 a3 a4 => cases a1 with | mk c1 c2 c3 => simp only [emptySt, St.mk.injEq] at this; obtain ⟨rfl, rfl, rfl⟩ := this; rfl) hst0
      (fun t v1 v2 l d hQ hA _ => perhapsQuoted_any ⟨#[110, 97, 109, 101, 100]⟩ b S0 Q 0 (QC t v1 v2) _ s l d w0 hA hs hG0 hb8 hQ8 hQ hbQ _ rfl hS0 (by omega) (by omega))
    rw [hW0 _ rfl] at this
    exact this
  have HS := Lib.hid (And.intro hst (And.intro hst0 (And.intro hz hS0)))
  clear hst hst0 hS0
  go_enter Tryz.func62, Tryz.ntmps62
  go_wp2_with fail
  (try rw [hw0])
  (try rw [hS0e])
  clear hw0
  refine hc1.mono ?_
  rintro e w1 ⟨⟨v1, rfl⟩, hF1, hst1⟩
  clear hc1
  have hFa : Fr [b, Q] w w1 := (hF0.mono (T := [b, Q]) (fun i hi => by simp at hi)).trans hF1
  have hG1 := hG.below (hFa.below (B := 8) h8 (by simp; omega)) (Nat.le_refl _)
  have h81 := Nat.le_trans h8 hFa.size
  have hlt1 := hst1.lt
  have hG1b : Fr [] w1 (w1.alloc (.cells #[.iface 85 (.string ⟨#[108, 101, 97, 115, 116]⟩), .iface 121 (.agg #[.pointer (some ⟨Q, 1, none⟩)])] 128)) := (Fr.refl _ _).alloc _
  have hS1 := Go.Bl.heap_alloc w1 (.cells #[.iface 85 (.string ⟨#[108, 101, 97, 115, 116]⟩), .iface 121 (.agg #[.pointer (some ⟨Q, 1, none⟩)])] 128)
  obtain ⟨S1, hS1e⟩ : ∃ S1, w1.heap.size = S1 := ⟨_, rfl⟩
  rw [hS1e] at hS1 hlt1
  obtain ⟨w2, hw2⟩ : ∃ w2, w1.alloc (.cells #[.iface 85 (.string ⟨#[108, 101, 97, 115, 116]⟩), .iface 121 (.agg #[.pointer (some ⟨Q, 1, none⟩)])] 128) = w2 := ⟨_, rfl⟩
  rw [hw2] at hG1b hS1
  have hst2 := hst1.fr hG1b
  have hG2 := hG1.frn hG1b h81
  have hFb : Fr [b, Q] w w2 := hFa.trans (hG1b.mono (fun i hi => by simp at hi))
  obtain ⟨res1, hres1⟩ : ∃ res1, bindQ res putFirstName (readX wNamed readQuoted []) = res1 := ⟨_, rfl⟩
  rw [hres1] at hst2
  have hz1 : ∀ t r, res1 = some (t, r) → t.first.least = 0 ∧ t.first.mat = [] := fun t r h => by
    rw [← hres1] at h
    obtain ⟨t0, r0, x, h1, rfl⟩ := bindQ_mem h
    have := hz t0 r0 h1
    unfold putFirstName
    rw [this]
    exact ⟨rfl, rfl⟩
  have hc2 : Calls Tryz.prog 63 #[ptr b, .slice (some ⟨S1, 0, none⟩) 2 2] w2 (StpPost b Q s (res1 = none ∧ res = none ∧ E) (bindQ res1 putFirstLeast (readX wLeast readSpan 0)) w2) := by
    have := step2 (W := ⟨#[108, 101, 97, 115, 116]⟩) (o := 1) putFirstLeast (fun x => .int .i64 x) 0 readSpan (fun t v1 v2 x => ⟨rfl, rfl, rfl⟩)
      (fun t r h => by have := (hz1 t r h).1; cases t with | mk a1 a2 a3 a4 => cases a1 with | mk c1 c2 c3 => simp only at this; subst this; rfl) hst2
      (fun t v1 v2 l d hQ hA _ => perhapsSpan_any ⟨#[108, 101, 97, 115, 116]⟩ b S1 Q 1 (QC t v1 v2) _ s l d w2 hA hs hG2 hb8 hQ8 hQ hbQ _ rfl hS1 (by omega) (by omega))
    rw [hW1 _ rfl] at this
    exact this
  have HR := Lib.hid (And.intro hres1 hz1)
  clear hst1 hst2 hS1 hres1 hz1 hF1 hlt1
  go_wp2_with fail
  (try rw [hw2])
  (try rw [hS1e])
  clear hw2
  refine hc2.mono ?_
  rintro e w3 ⟨⟨v3, rfl⟩, hF3, hst3⟩
  clear hc2
  have hFc : Fr [b, Q] w w3 := hFb.trans hF3
  have hG3 := hG.below (hFc.below (B := 8) h8 (by simp; omega)) (Nat.le_refl _)
  have h83 := Nat.le_trans h8 hFc.size
  have hlt3 := hst3.lt
  have hG3b : Fr [] w3 (w3.alloc (.cells #[.iface 124 (.agg #[.pointer (some ⟨Q, 2, none⟩)])] 128)) := (Fr.refl _ _).alloc _
  have hS3 := Go.Bl.heap_alloc w3 (.cells #[.iface 124 (.agg #[.pointer (some ⟨Q, 2, none⟩)])] 128)
  obtain ⟨S3, hS3e⟩ : ∃ S3, w3.heap.size = S3 := ⟨_, rfl⟩
  rw [hS3e] at hS3 hlt3
  obtain ⟨w4, hw4⟩ : ∃ w4, w3.alloc (.cells #[.iface 124 (.agg #[.pointer (some ⟨Q, 2, none⟩)])] 128) = w4 := ⟨_, rfl⟩
  rw [hw4] at hG3b hS3
  have hst4 := hst3.fr hG3b
  have hG4 := hG3.frn hG3b h83
  have hFd : Fr [b, Q] w w4 := hFc.trans (hG3b.mono (fun i hi => by simp at hi))
  obtain ⟨res2, hres2⟩ : ∃ res2, bindQ res1 putFirstLeast (readX wLeast readSpan 0) = res2 := ⟨_, rfl⟩
  rw [hres2] at hst4
  have hz2 : ∀ t r, res2 = some (t, r) → t.first.mat = [] := fun t r h => by
    rw [← hres2] at h
    obtain ⟨t0, r0, x, h1, rfl⟩ := bindQ_mem h
    exact (HR.out.2 t0 r0 h1).2
  have hc3 : Calls Tryz.prog 63 #[ptr b, .slice (some ⟨S3, 0, none⟩) 1 1] w4 (StpPost b Q s (res2 = none ∧ res1 = none ∧ res = none ∧ E) (bindQ res2 putFirstMat readMats) w4) := by
    refine stepM (o := 2) putFirstMat (fun t v1 v2 v x => ⟨v, v2, rfl, fun W h1 h2 h3 => ⟨h3, h2⟩⟩)
      (fun t r h => by have := hz2 t r h; cases t with | mk a1 a2 a3 a4 => cases a1 with | mk c1 c2 c3 => simp only at this; subst this; rfl) hst4
      (fun t v1 v2 l d hQ hA hno => perhapsM_any b S3 Q 2 (QC t v1 v2) _ s l d w4 hA hs hG4 hb8 hQ8 hQ hbQ _ rfl hno hS3 (by omega) (by omega))
  have HR2 := Lib.hid hres2
  clear hst3 hst4 hS3 hres2 hz2 hF3 hlt3
  go_wp2_with fail
  (try rw [hw4])
  (try rw [hS3e])
  clear hw4
  refine hc3.mono ?_
  rintro e w5 ⟨⟨v5, rfl⟩, hF5, hst5⟩
  clear hc3
  have hst6 := hst5.imp (E' := res = none ∧ E) (fun h => by
    have e1 : res1 = none := by rw [← HR.out.1, h.1]; rfl
    have e2 : res2 = none := by rw [← HR2.out, e1]; rfl
    exact ⟨e2, e1, h⟩)
  clear hst5
  rename Stp b Q s (res = none ∧ E) _ w5 => hst5
  rw [← HR2.out, ← HR.out.1, test_plainFirst] at hst5
  have HE := Lib.hid hst5
  clear hst5
  go_wp2_with fail
  exact ⟨rfl, .tuple #[], by simp [results, Tryz.results62, go_sem], rfl, hFd.trans hF5, HE.out⟩
def putSecondName (t : Tq) (x : Bs) : Tq := { t with second := { t.second with name := x } }
def putSecondLeast (t : Tq) (x : Int) : Tq := { t with second := { t.second with least := x } }
def putSecondMat (t : Tq) (x : List Mt) : Tq := { t with second := { t.second with mat := x } }
def putSecond (t : Tq) (x : St) : Tq := { t with second := x }
theorem test_plainSecond (res : Option (Tq × Bs)) :
    bindQ (bindQ (bindQ res putSecondName (readX wNamed readQuoted [])) putSecondLeast (readX wLeast readSpan 0)) putSecondMat readMats = bindQ res putSecond readTest := by
  cases res with
  | none => rfl
  | some p =>
    obtain ⟨t, r⟩ := p
    rw [bindQ_some, bindQ_some]
    unfold readTest
    rw [show readX wNamed readQuoted [] r = readNamed r from rfl]
    cases h1 : readNamed r with
    | none => rfl
    | some a =>
      obtain ⟨nm, l1⟩ := a
      simp only [Option.map_some]
      rw [bindQ_some, show readX wLeast readSpan 0 l1 = readLeast l1 from rfl]
      cases h2 : readLeast l1 with
      | none => rfl
      | some c =>
        obtain ⟨ls, l2⟩ := c
        simp only [Option.map_some]
        rw [bindQ_some]
        cases h3 : readMats l2 with
        | none => rfl
        | some e =>
          obtain ⟨ms, l3⟩ := e
          rfl
set_option maxRecDepth 100000 in
set_option maxHeartbeats 2000000 in
theorem testSecond_any (b Q : Nat) (s : ByteArray) (E : Prop) (res : Option (Tq × Bs)) (w : World) (hst : Stp b Q s E res w) (hz : ∀ t r, res = some (t, r) → t.second = emptySt) (hs : s.size ≤ 1024) (hG : GV w) (hb8 : 8 ≤ b) (hQ8 : 8 ≤ Q) (hbQ : b ≠ Q) :
    Calls Tryz.prog 62 #[ptr b, .pointer (some ⟨Q, 3, none⟩)] w (TestPost b Q s (res = none ∧ E) (bindQ res putSecond readTest) w) := by
  have h8 : 8 ≤ w.heap.size := by have := hst.lt; omega
  have hlt := hst.lt
  have hF0 : Fr [] w (w.alloc (.cells #[.iface 85 (.string ⟨#[110, 97, 109, 101, 100]⟩), .iface 118 (.agg #[.pointer (some ⟨Q, 3, none⟩)])] 128)) := (Fr.refl _ _).alloc _
  have hS0 := Go.Bl.heap_alloc w (.cells #[.iface 85 (.string ⟨#[110, 97, 109, 101, 100]⟩), .iface 118 (.agg #[.pointer (some ⟨Q, 3, none⟩)])] 128)
  obtain ⟨S0, hS0e⟩ : ∃ S0, w.heap.size = S0 := ⟨_, rfl⟩
  rw [hS0e] at hS0 hlt
  obtain ⟨w0, hw0⟩ : ∃ w0, w.alloc (.cells #[.iface 85 (.string ⟨#[110, 97, 109, 101, 100]⟩), .iface 118 (.agg #[.pointer (some ⟨Q, 3, none⟩)])] 128) = w0 := ⟨_, rfl⟩
  have hW0 : ∀ W : ByteArray, W = ⟨#[110, 97, 109, 101, 100]⟩ → W.data.toList = wNamed := by rintro W rfl; rfl
  have hW1 : ∀ W : ByteArray, W = ⟨#[108, 101, 97, 115, 116]⟩ → W.data.toList = wLeast := by rintro W rfl; rfl
  rw [hw0] at hF0 hS0
  have hst0 := hst.fr hF0
  have hG0 := hG.frn hF0 h8
  have hc1 : Calls Tryz.prog 63 #[ptr b, .slice (some ⟨S0, 0, none⟩) 2 2] w0 (StpPost b Q s (res = none ∧ E) (bindQ res putSecondName (readX wNamed readQuoted [])) w0) := by
    have := step2 (W := ⟨#[110, 97, 109, 101, 100]⟩) (o := 3) putSecondName (fun x => .string ⟨x.toArray⟩) [] readQuoted (fun t v1 v2 x => ⟨rfl, rfl, rfl⟩)
      (fun t r h => by have := hz t r h; cases t with | mk a1 a2 a3 a4 => cases a2 with | mk c1 c2 c3 => simp only [emptySt, St.mk.injEq] at this; obtain ⟨rfl, rfl, rfl⟩ := this; rfl) hst0
      (fun t v1 v2 l d hQ hA _ => perhapsQuoted_any ⟨#[110, 97, 109, 101, 100]⟩ b S0 Q 3 (QC t v1 v2) _ s l d w0 hA hs hG0 hb8 hQ8 hQ hbQ _ rfl hS0 (by omega) (by omega))
    rw [hW0 _ rfl] at this
    exact this
  have HS := Lib.hid (And.intro hst (And.intro hst0 (And.intro hz hS0)))
  clear hst hst0 hS0
  go_enter Tryz.func62, Tryz.ntmps62
  go_wp2_with fail
  (try rw [hw0])
  (try rw [hS0e])
  clear hw0
  refine hc1.mono ?_
  rintro e w1 ⟨⟨v1, rfl⟩, hF1, hst1⟩
  clear hc1
  have hFa : Fr [b, Q] w w1 := (hF0.mono (T := [b, Q]) (fun i hi => by simp at hi)).trans hF1
  have hG1 := hG.below (hFa.below (B := 8) h8 (by simp; omega)) (Nat.le_refl _)
  have h81 := Nat.le_trans h8 hFa.size
  have hlt1 := hst1.lt
  have hG1b : Fr [] w1 (w1.alloc (.cells #[.iface 85 (.string ⟨#[108, 101, 97, 115, 116]⟩), .iface 121 (.agg #[.pointer (some ⟨Q, 4, none⟩)])] 128)) := (Fr.refl _ _).alloc _
  have hS1 := Go.Bl.heap_alloc w1 (.cells #[.iface 85 (.string ⟨#[108, 101, 97, 115, 116]⟩), .iface 121 (.agg #[.pointer (some ⟨Q, 4, none⟩)])] 128)
  obtain ⟨S1, hS1e⟩ : ∃ S1, w1.heap.size = S1 := ⟨_, rfl⟩
  rw [hS1e] at hS1 hlt1
  obtain ⟨w2, hw2⟩ : ∃ w2, w1.alloc (.cells #[.iface 85 (.string ⟨#[108, 101, 97, 115, 116]⟩), .iface 121 (.agg #[.pointer (some ⟨Q, 4, none⟩)])] 128) = w2 := ⟨_, rfl⟩
  rw [hw2] at hG1b hS1
  have hst2 := hst1.fr hG1b
  have hG2 := hG1.frn hG1b h81
  have hFb : Fr [b, Q] w w2 := hFa.trans (hG1b.mono (fun i hi => by simp at hi))
  obtain ⟨res1, hres1⟩ : ∃ res1, bindQ res putSecondName (readX wNamed readQuoted []) = res1 := ⟨_, rfl⟩
  rw [hres1] at hst2
  have hz1 : ∀ t r, res1 = some (t, r) → t.second.least = 0 ∧ t.second.mat = [] := fun t r h => by
    rw [← hres1] at h
    obtain ⟨t0, r0, x, h1, rfl⟩ := bindQ_mem h
    have := hz t0 r0 h1
    unfold putSecondName
    rw [this]
    exact ⟨rfl, rfl⟩
  have hc2 : Calls Tryz.prog 63 #[ptr b, .slice (some ⟨S1, 0, none⟩) 2 2] w2 (StpPost b Q s (res1 = none ∧ res = none ∧ E) (bindQ res1 putSecondLeast (readX wLeast readSpan 0)) w2) := by
    have := step2 (W := ⟨#[108, 101, 97, 115, 116]⟩) (o := 4) putSecondLeast (fun x => .int .i64 x) 0 readSpan (fun t v1 v2 x => ⟨rfl, rfl, rfl⟩)
      (fun t r h => by have := (hz1 t r h).1; cases t with | mk a1 a2 a3 a4 => cases a2 with | mk c1 c2 c3 => simp only at this; subst this; rfl) hst2
      (fun t v1 v2 l d hQ hA _ => perhapsSpan_any ⟨#[108, 101, 97, 115, 116]⟩ b S1 Q 4 (QC t v1 v2) _ s l d w2 hA hs hG2 hb8 hQ8 hQ hbQ _ rfl hS1 (by omega) (by omega))
    rw [hW1 _ rfl] at this
    exact this
  have HR := Lib.hid (And.intro hres1 hz1)
  clear hst1 hst2 hS1 hres1 hz1 hF1 hlt1
  go_wp2_with fail
  (try rw [hw2])
  (try rw [hS1e])
  clear hw2
  refine hc2.mono ?_
  rintro e w3 ⟨⟨v3, rfl⟩, hF3, hst3⟩
  clear hc2
  have hFc : Fr [b, Q] w w3 := hFb.trans hF3
  have hG3 := hG.below (hFc.below (B := 8) h8 (by simp; omega)) (Nat.le_refl _)
  have h83 := Nat.le_trans h8 hFc.size
  have hlt3 := hst3.lt
  have hG3b : Fr [] w3 (w3.alloc (.cells #[.iface 124 (.agg #[.pointer (some ⟨Q, 5, none⟩)])] 128)) := (Fr.refl _ _).alloc _
  have hS3 := Go.Bl.heap_alloc w3 (.cells #[.iface 124 (.agg #[.pointer (some ⟨Q, 5, none⟩)])] 128)
  obtain ⟨S3, hS3e⟩ : ∃ S3, w3.heap.size = S3 := ⟨_, rfl⟩
  rw [hS3e] at hS3 hlt3
  obtain ⟨w4, hw4⟩ : ∃ w4, w3.alloc (.cells #[.iface 124 (.agg #[.pointer (some ⟨Q, 5, none⟩)])] 128) = w4 := ⟨_, rfl⟩
  rw [hw4] at hG3b hS3
  have hst4 := hst3.fr hG3b
  have hG4 := hG3.frn hG3b h83
  have hFd : Fr [b, Q] w w4 := hFc.trans (hG3b.mono (fun i hi => by simp at hi))
  obtain ⟨res2, hres2⟩ : ∃ res2, bindQ res1 putSecondLeast (readX wLeast readSpan 0) = res2 := ⟨_, rfl⟩
  rw [hres2] at hst4
  have hz2 : ∀ t r, res2 = some (t, r) → t.second.mat = [] := fun t r h => by
    rw [← hres2] at h
    obtain ⟨t0, r0, x, h1, rfl⟩ := bindQ_mem h
    exact (HR.out.2 t0 r0 h1).2
  have hc3 : Calls Tryz.prog 63 #[ptr b, .slice (some ⟨S3, 0, none⟩) 1 1] w4 (StpPost b Q s (res2 = none ∧ res1 = none ∧ res = none ∧ E) (bindQ res2 putSecondMat readMats) w4) := by
    refine stepM (o := 5) putSecondMat (fun t v1 v2 v x => ⟨v1, v, rfl, fun W h1 h2 h3 => ⟨h1, h3⟩⟩)
      (fun t r h => by have := hz2 t r h; cases t with | mk a1 a2 a3 a4 => cases a2 with | mk c1 c2 c3 => simp only at this; subst this; rfl) hst4
      (fun t v1 v2 l d hQ hA hno => perhapsM_any b S3 Q 5 (QC t v1 v2) _ s l d w4 hA hs hG4 hb8 hQ8 hQ hbQ _ rfl hno hS3 (by omega) (by omega))
  have HR2 := Lib.hid hres2
  clear hst3 hst4 hS3 hres2 hz2 hF3 hlt3
  go_wp2_with fail
  (try rw [hw4])
  (try rw [hS3e])
  clear hw4
  refine hc3.mono ?_
  rintro e w5 ⟨⟨v5, rfl⟩, hF5, hst5⟩
  clear hc3
  have hst6 := hst5.imp (E' := res = none ∧ E) (fun h => by
    have e1 : res1 = none := by rw [← HR.out.1, h.1]; rfl
    have e2 : res2 = none := by rw [← HR2.out, e1]; rfl
    exact ⟨e2, e1, h⟩)
  clear hst5
  rename Stp b Q s (res = none ∧ E) _ w5 => hst5
  rw [← HR2.out, ← HR.out.1, test_plainSecond] at hst5
  have HE := Lib.hid hst5
  clear hst5
  go_wp2_with fail
  exact ⟨rfl, .tuple #[], by simp [results, Tryz.results62, go_sem], rfl, hFd.trans hF5, HE.out⟩
end Go.Proofs.YtdhmloejgoacaaaGreatDoor
