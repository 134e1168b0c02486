/- Steps of the reader over a query that is built up: each perhaps, as one step from what is read to what is read. -/
import Derived.Test.YtdhmloejgoacaaaGreatDoorMw34
import Derived.Test.YtdhmloejgoacaaaGreatDoorMw23
import Derived.Test.YtdhmloejgoacaaaGreatDoorMw37
import Derived.Test.YtdhmloejgoacaaaGreatDoorMw30
import Derived.Test.YtdhmloejgoacaaaGreatDoorMw15
set_option linter.unusedVariables false
set_option linter.unusedSimpArgs false
namespace Go.Proofs.YtdhmloejgoacaaaGreatDoor
open Go.RowKit Go.Bl Go.Lq Go.Tq

/-- A query's cells. -/
def QC (t : Tq) (v1 v2 : Value) : Array Value := #[.string ⟨t.first.name.toArray⟩, .int .i64 t.first.least, v1, .string ⟨t.second.name.toArray⟩, .int .i64 t.second.least, v2, .int .i64 t.has, .int .i64 t.limit]
def QAt (w : World) (Q : Nat) (t : Tq) : Prop := ∃ v1 v2, w.heap[Q]? = some (.cells (QC t v1 v2) 47 (0, 0)) ∧ Mts w v1 t.first.mat ∧ Mts w v2 t.second.mat
theorem NoMt.qc {w : World} {t : Tq} {v1 v2 : Value} {l1 l2 : List Mt} (h1 : Mts w v1 l1) (h2 : Mts w v2 l2) : NoMt (QC t v1 v2) := by
  obtain ⟨A, c, rfl, _⟩ := h1
  obtain ⟨A2, c2, rfl, _⟩ := h2
  unfold QC
  intro k a x hk hk2
  match k, hk, hk2 with
  | 0, _, h => cases h
  | 1, h, _ => cases h
  | 2, h, _ => cases h
  | 3, _, h => cases h
  | 4, h, _ => cases h
  | 5, h, _ => cases h
  | 6, h, _ => cases h
  | 7, h, _ => cases h
/-- The matchers of a query stay where the reader and the query's cells change. -/
theorem mts_keep {b Q : Nat} {s : ByteArray} {l : Bs} {d : Bool} {w w' : World} {t : Tq} {v1 v2 : Value} (hA : Ar 84 w b s l d) (hQ : w.heap[Q]? = some (.cells (QC t v1 v2) 47 (0, 0)))
    {l1 l2 : List Mt} (h1 : Mts w v1 l1) (h2 : Mts w v2 l2) (hF : Fr [b, Q] w w') {v : Value} {ms : List Mt} (h : Mts w v ms) : Mts w' v ms :=
  h.keepS hF fun k hk => by
    simp only [List.mem_cons, List.not_mem_nil, or_false] at hk
    rcases hk with rfl | rfl
    · exact ⟨_, _, _, hA.cells, NoMt.reader _ _ _⟩
    · exact ⟨_, _, _, hQ, NoMt.qc h1 h2⟩
/-- What is read so far: the query and what is left; or it can not go on (if E, at the text's end). -/
def Stp (b Q : Nat) (s : ByteArray) (E : Prop) (res : Option (Tq × Bs)) (w : World) : Prop := match res with
  | some (t, r) => QAt w Q t ∧ Ar 84 w b s r false
  | none => ∃ t r, QAt w Q t ∧ Ar 84 w b s r true ∧ (E → r = [])
theorem Stp.imp {b Q : Nat} {s : ByteArray} {E E' : Prop} {res : Option (Tq × Bs)} {w : World} (h : Stp b Q s E res w) (hE : E' → E) : Stp b Q s E' res w := by
  cases res with
  | none => obtain ⟨t, r, h1, h2, h3⟩ := h; exact ⟨t, r, h1, h2, fun h => h3 (hE h)⟩
  | some x => exact h
theorem skip_nil {r : Bs} (h : r = []) : skipL r = [] := by rw [h]; rfl
theorem Stp.fr {b Q : Nat} {s : ByteArray} {E : Prop} {res : Option (Tq × Bs)} {w w' : World} (h : Stp b Q s E res w) (hF : Fr [] w w') : Stp b Q s E res w' := by
  have hq : ∀ {t}, QAt w Q t → QAt w' Q t := fun ⟨v1, v2, h1, h2, h3⟩ => ⟨v1, v2, hF.obj h1 (by simp), h2.fr hF, h3.fr hF⟩
  cases res with
  | none => obtain ⟨t, r, h1, h2, h3⟩ := h; exact ⟨t, r, hq h1, h2.fr hF (by simp), h3⟩
  | some x => obtain ⟨t, r⟩ := x; exact ⟨hq h.1, h.2.fr hF (by simp)⟩
theorem Stp.lt {b Q : Nat} {s : ByteArray} {E : Prop} {res : Option (Tq × Bs)} {w : World} (h : Stp b Q s E res w) : b < w.heap.size ∧ Q < w.heap.size := by
  cases res with
  | none => obtain ⟨t, r, ⟨_, _, h1, _⟩, h2, _⟩ := h; exact ⟨lt_of_obj h2.cells, lt_of_obj h1⟩
  | some x => obtain ⟨t, r⟩ := x; obtain ⟨⟨_, _, h1, _⟩, h2⟩ := h; exact ⟨lt_of_obj h2.cells, lt_of_obj h1⟩
/-- A word, and what stands behind it; none: nothing is read. -/
def readX {α : Type} (W : Bs) (f : Bs → Option (α × Bs)) (z : α) (l : Bs) : Option (α × Bs) := if wordL l = W then f ((skipL l).drop W.length) else some (z, skipL l)
def StpPost (b Q : Nat) (s : ByteArray) (E : Prop) (res : Option (Tq × Bs)) (w : World) (e : Ending) (w' : World) : Prop :=
  (∃ v, e = .returned v) ∧ Fr [b, Q] w w' ∧ Stp b Q s E res w'
def bindQ {α : Type} (res : Option (Tq × Bs)) (put : Tq → α → Tq) (f : Bs → Option (α × Bs)) : Option (Tq × Bs) := res.bind fun p => (f p.2).map fun y => (put p.1 y.1, y.2)
theorem bindQ_none {α : Type} (put : Tq → α → Tq) (f : Bs → Option (α × Bs)) : bindQ none put f = none := rfl
theorem bindQ_some {α : Type} (t : Tq) (r : Bs) (put : Tq → α → Tq) (f : Bs → Option (α × Bs)) : bindQ (some (t, r)) put f = (f r).map fun y => (put t y.1, y.2) := rfl
/-- The step of a word and a thing. -/
theorem step2 {α : Type} {W : ByteArray} {b Q o : Nat} {s : ByteArray} {E : Prop} {res : Option (Tq × Bs)} {w : World} (put : Tq → α → Tq) (enc : α → Value) (z : α) (f : Bs → Option (α × Bs))
    (hput : ∀ t v1 v2 x, (QC t v1 v2).setIfInBounds o (enc x) = QC (put t x) v1 v2 ∧ (put t x).first.mat = t.first.mat ∧ (put t x).second.mat = t.second.mat)
    (hz : ∀ t r, res = some (t, r) → put t z = t)
    {args : Array Value} (hst : Stp b Q s E res w)
    (hcall : ∀ t v1 v2 l d, w.heap[Q]? = some (.cells (QC t v1 v2) 47 (0, 0)) → Ar 84 w b s l d → (d = false → res = some (t, l)) →
      Calls Tryz.prog 63 args w (P2Post W b Q o (QC t v1 v2) 47 s l d (fun m => (f m).map fun x => (enc x.1, x.2)) w)) :
    Calls Tryz.prog 63 args w (StpPost b Q s (res = none ∧ E) (bindQ res put (readX W.data.toList f z)) w) := by
  cases res with
  | none =>
    obtain ⟨t, r, ⟨v1, v2, h1, h2, h3⟩, hA, hE⟩ := hst
    refine (hcall t v1 v2 r true h1 hA (fun h => by cases h)).mono ?_
    rintro e w' ⟨rfl, hF, hx⟩
    rw [if_neg (by simp)] at hx
    refine ⟨⟨_, rfl⟩, hF, ?_⟩
    exact ⟨t, skipL r, ⟨v1, v2, hx.1, mts_keep hA h1 h2 h3 hF h2, mts_keep hA h1 h2 h3 hF h3⟩, hx.2, fun h => skip_nil (hE h.2)⟩
  | some x =>
    obtain ⟨t, r⟩ := x
    obtain ⟨⟨v1, v2, h1, h2, h3⟩, hA⟩ := hst
    refine (hcall t v1 v2 r false h1 hA (fun _ => rfl)).mono ?_
    rintro e w' ⟨rfl, hF, hx⟩
    refine ⟨⟨_, rfl⟩, hF, ?_⟩
    rw [bindQ_some]
    have k1 := mts_keep hA h1 h2 h3 hF h2
    have k2 := mts_keep hA h1 h2 h3 hF h3
    unfold readX
    by_cases hw : wordL r = W.data.toList
    · rw [if_pos (by simp [hw])] at hx
      rw [if_pos hw]
      cases hf : f ((skipL r).drop W.data.toList.length) with
      | none =>
        simp only [hf] at hx
        obtain ⟨hq, y, _, hy⟩ := hx
        exact ⟨t, y, ⟨v1, v2, hq, k1, k2⟩, hy, fun h => by cases h.1⟩
      | some p =>
        simp only [hf] at hx
        obtain ⟨p1, p2⟩ := p
        obtain ⟨e1, e2, e3⟩ := hput t v1 v2 p1
        obtain ⟨hq, hy⟩ := hx
        rw [e1] at hq
        exact ⟨⟨v1, v2, hq, by rw [e2]; exact k1, by rw [e3]; exact k2⟩, hy⟩
    · rw [if_neg (by simp [hw])] at hx
      rw [if_neg hw]
      have := hz t r rfl
      exact ⟨⟨v1, v2, by rw [this]; exact hx.1, by rw [this]; exact k1, by rw [this]; exact k2⟩, hx.2⟩
/-- The step of matchers. -/
theorem stepM {b Q o : Nat} {s : ByteArray} {E : Prop} {res : Option (Tq × Bs)} {w : World} (put : Tq → List Mt → Tq)
    (hput : ∀ t v1 v2 (v : Value) x, ∃ u1 u2, (QC t v1 v2).setIfInBounds o v = QC (put t x) u1 u2 ∧ (∀ W, Mts W v1 t.first.mat → Mts W v2 t.second.mat → Mts W v x → Mts W u1 (put t x).first.mat ∧ Mts W u2 (put t x).second.mat))
    (hz : ∀ t r, res = some (t, r) → put t [] = t)
    {args : Array Value} (hst : Stp b Q s E res w)
    (hcall : ∀ t v1 v2 l d, w.heap[Q]? = some (.cells (QC t v1 v2) 47 (0, 0)) → Ar 84 w b s l d → NoMt (QC t v1 v2) →
      Calls Tryz.prog 63 args w (PMaPost b Q o (QC t v1 v2) 47 s l d w)) :
    Calls Tryz.prog 63 args w (StpPost b Q s (res = none ∧ E) (bindQ res put readMats) w) := by
  cases res with
  | none =>
    obtain ⟨t, r, ⟨v1, v2, h1, h2, h3⟩, hA, hE⟩ := hst
    refine (hcall t v1 v2 r true h1 hA (NoMt.qc h2 h3)).mono ?_
    rintro e w' ⟨rfl, hF, hx⟩
    rw [if_neg (by simp)] at hx
    refine ⟨⟨_, rfl⟩, hF, ?_⟩
    exact ⟨t, skipL r, ⟨v1, v2, hx.1, mts_keep hA h1 h2 h3 hF h2, mts_keep hA h1 h2 h3 hF h3⟩, hx.2, fun h => skip_nil (hE h.2)⟩
  | some x =>
    obtain ⟨t, r⟩ := x
    obtain ⟨⟨v1, v2, h1, h2, h3⟩, hA⟩ := hst
    refine (hcall t v1 v2 r false h1 hA (NoMt.qc h2 h3)).mono ?_
    rintro e w' ⟨rfl, hF, hx⟩
    refine ⟨⟨_, rfl⟩, hF, ?_⟩
    rw [bindQ_some]
    have k1 := mts_keep hA h1 h2 h3 hF h2
    have k2 := mts_keep hA h1 h2 h3 hF h3
    unfold readMats
    by_cases hw : (skipL r).head? = some 123
    · rw [if_pos (by simp [hw])] at hx
      rw [if_pos hw]
      cases hf : readMatchers (skipL r) with
      | none =>
        rw [hf] at hx
        obtain ⟨hq, y, _, hy⟩ := hx
        exact ⟨t, y, ⟨v1, v2, hq, k1, k2⟩, hy, fun h => by cases h.1⟩
      | some p =>
        rw [hf] at hx
        obtain ⟨p1, p2⟩ := p
        obtain ⟨v, hv, hq, hy⟩ := hx
        obtain ⟨u1, u2, e1, e2⟩ := hput t v1 v2 v p1
        rw [e1] at hq
        obtain ⟨m1, m2⟩ := e2 w' k1 k2 hv
        exact ⟨⟨u1, u2, hq, m1, m2⟩, hy⟩
    · rw [if_neg (by simp [hw])] at hx
      rw [if_neg hw]
      have := hz t r rfl
      exact ⟨⟨v1, v2, by rw [this]; exact hx.1, by rw [this]; exact k1, by rw [this]; exact k2⟩, hx.2⟩
end Go.Proofs.YtdhmloejgoacaaaGreatDoor
namespace Go.Proofs.YtdhmloejgoacaaaGreatDoor
open Go.RowKit Go.Bl Go.Lq Go.Tq

def Bx (H : Nat) (K : ByteArray) (n : Int) (v : Value) (s : Value) (B : Bs) (w w' : World) : Prop := s = .string ⟨B.toArray⟩ ∧ B.length ≤ 9000000 ∧ w'.heap[H]? = some (.cells #[.string K, .int .i64 n, v] 45 (0, 0)) ∧ Fr [] w w'
set_option maxRecDepth 100000 in
set_option maxHeartbeats 4000000 in
theorem testTextR_any (t : St) (v : Value) (w : World) (hG : GV w) (h8 : 8 ≤ w.heap.size) (hM : Mts w v t.mat) (hn : t.name.length ≤ 1024) (hS : Short t.mat) (hsp : t.least ≠ 0 → spanP t.least ≠ none) :
    Calls Tryz.prog 93 #[.agg #[.string ⟨t.name.toArray⟩, .int .i64 t.least, v]] w fun e w' => e = .returned (.string ⟨(testT t).toArray⟩) ∧ Fr [] w w' := by
  obtain ⟨n, hnn⟩ : ∃ n, t.least = n := ⟨_, rfl⟩
  obtain ⟨K, hK⟩ : ∃ K : ByteArray, ⟨t.name.toArray⟩ = K := ⟨_, rfl⟩
  have hKe := empty_iff K
  have hKl : K.data.toList = t.name := by rw [← hK]
  have hKs : K.size ≤ 1024 := by rw [← bytes_len, hKl]; exact hn
  rw [hKl] at hKe
  rw [hK, hnn]
  rw [hnn] at hsp
  have hF1 : Fr [] w (w.alloc (.cells #[.string K, .int .i64 n, v] 45)) := (Fr.refl _ _).alloc _
  have hC1 := Go.Bl.heap_alloc w (.cells #[.string K, .int .i64 n, v] 45)
  obtain ⟨H, hH⟩ : ∃ H, w.heap.size = H := ⟨_, rfl⟩
  have hq := fun W => quoteR_any K (by omega) W
  rw [hKl] at hq
  have HT : Hid (testT t = namedT t ++ (leastT t ++ matsT t)) := Lib.hid (testT_eq t)
  rw [hH] at hC1
  have HKN := Lib.hid (And.intro hKl hnn)
  clear hK hKl hnn
  go_enter Tryz.func93, Tryz.ntmps93
  go_upto_region 1 with fail
  obtain ⟨w1, hw1⟩ : ∃ w1, w.alloc (.cells #[.string K, .int .i64 n, v] 45) = w1 := ⟨_, rfl⟩
  rw [hw1] at hF1 hC1 ⊢
  (try rw [hH])
  clear hw1
  have c0 := cell_of hC1 0
  simp only [List.getElem?_toArray, List.getElem?_cons_zero, List.getElem?_cons_succ] at c0
  obtain ⟨d, hd⟩ : ∃ d, decide (t.name = []) = d := ⟨_, rfl⟩
  rw [hd] at hKe
  have HD := Lib.hid hd
  clear hd
  go_upto_if 8 with fail
  go_cut [3] (fun v3 wx => Bx H K n v v3 (namedT t) w wx)
  case first =>
    cases d
    · have hnt : namedT t = 32 :: (wNamed ++ 32 :: quoteP t.name) := by unfold namedT; rw [if_pos (by simpa using HD.out)]
      have hql := quoteP_lenT t.name
      have HN := Lib.hid hnt
      clear hnt
      go_wp2_with fail
      refine (hq _).mono ?_
      rintro e w2 ⟨rfl, hF2⟩
      have hC2 := hF2.obj hC1 (by simp)
      obtain ⟨Y, hY⟩ : ∃ Y : ByteArray, (⟨(quoteP t.name).toArray⟩ : ByteArray) = Y := ⟨_, rfl⟩
      have hYs : Y.size ≤ 4000 := by rw [← hY]; simp [ByteArray.size]; omega
      have hYl : Y.data.toList = quoteP t.name := by rw [← hY]
      rw [hY]
      have g1 : ¬ 9223372036854775807 < 7 + Y.size := by omega
      have hb : Bx H K n v (.string (⟨#[32, 110, 97, 109, 101, 100, 32]⟩ ++ Y)) (namedT t) w w2 := by
        refine ⟨?_, ?_, hC2, hF1.trans hF2⟩
        · congr 1
          apply bs_ext
          rw [HN.out, ← hYl]
          simp [wNamed]
        · rw [HN.out]; simp [wNamed]; omega
      have HB := Lib.hid hb
      clear hb hY hYl hYs hC2 hF2 hql
      go_wp2_with fail
      go_meet
      exact HB.out
    · have hb : Bx H K n v (.string ⟨#[]⟩) (namedT t) w w1 := by
        refine ⟨?_, ?_, hC1, hF1⟩
        · unfold namedT; rw [if_neg (by simpa using HD.out)]
        · unfold namedT; rw [if_neg (by simpa using HD.out)]; simp
      have HB := Lib.hid hb
      clear hb
      go_wp2_with fail
      go_meet
      exact HB.out
  case rest =>
    clear hKe hC1 hF1 c0 hq
    obtain ⟨w2, rfl⟩ : ∃ w2, w2 = wc := ⟨_, rfl⟩
    obtain ⟨rfl, hBl, hC2, hF2⟩ := hcut
    obtain ⟨S1, hS1⟩ : ∃ S1 : ByteArray, (⟨(namedT t).toArray⟩ : ByteArray) = S1 := ⟨_, rfl⟩
    have hS1l : S1.data.toList = namedT t := by rw [← hS1]
    have hS1s : S1.size ≤ 9000000 := by rw [← bytes_len, hS1l]; exact hBl
    rw [hS1]
    have HS1 := Lib.hid hS1l
    clear hS1 hS1l hBl
    have c1 := cell_of hC2 1
    simp only [List.getElem?_toArray, List.getElem?_cons_zero, List.getElem?_cons_succ] at c1
    obtain ⟨e, he⟩ : ∃ e, (n != 0) = e := ⟨_, rfl⟩
    have hspn := fun W (hW : Fr [] w2 W) => spanR_any n W ((hG.frn hF2 h8).frn hW (Nat.le_trans h8 hF2.size)) (Nat.le_trans (Nat.le_trans h8 hF2.size) hW.size)
    go_upto_if 17 with fail
    go_cut [3] (fun v3 wx => Bx H K n v v3 (namedT t ++ leastT t) w wx)
    case first =>
      cases e
      · have hn0 : n = 0 := by simpa using he
        have hl0 : leastT t = [] := by unfold leastT; rw [HKN.out.2, if_neg (by simp [hn0])]
        have hb : Bx H K n v (.string S1) (namedT t ++ leastT t) w w2 := by
          refine ⟨?_, by rw [hl0, List.append_nil, ← HS1.out, bytes_len]; exact hS1s, hC2, hF2⟩
          rw [hl0, List.append_nil]
          congr 1
          exact bs_of HS1.out
        have HB := Lib.hid hb
        clear hb hl0 hspn hn0
        go_wp2_with fail
        go_meet
        exact HB.out
      · have hn0 : n ≠ 0 := by simpa using he
        obtain ⟨sp, hspe⟩ : ∃ sp, spanP n = some sp := by
          cases h : spanP n with
          | none => exact absurd h (hsp hn0)
          | some x => exact ⟨x, rfl⟩
        have hl0 : leastT t = 32 :: (wLeast ++ 32 :: sp) := by
          unfold leastT spanD
          rw [HKN.out.2, if_pos hn0, hspe]
          rfl
        have hsl : sp.length ≤ 11 := (span_back hspe).2.2.2
        have hsp2 : ∀ W, Fr [] w2 W → Calls Tryz.prog 95 #[.int .i64 n] W fun e w' => e = .returned (.tuple #[.string ⟨sp.toArray⟩, .int .i64 0]) ∧ Fr [] W w' := fun W hW => by
          refine (hspn W hW).mono ?_
          rintro e w' ⟨hF, hx⟩
          rw [hspe] at hx
          exact ⟨hx, hF⟩
        have HN := Lib.hid hl0
        clear hl0 hspn hspe hn0 hsp
        go_wp2_with fail
        refine (hsp2 _ (Fr.refl _ _)).mono ?_
        rintro e w3 ⟨rfl, hF3⟩
        have hC3 := hF3.obj hC2 (by simp)
        obtain ⟨Y, hY⟩ : ∃ Y : ByteArray, (⟨sp.toArray⟩ : ByteArray) = Y := ⟨_, rfl⟩
        have hYl : Y.data.toList = sp := by rw [← hY]
        have hYs : Y.size ≤ 11 := by rw [← bytes_len, hYl]; exact hsl
        rw [hY]
        have hb : Bx H K n v (.string (S1 ++ ⟨#[32, 108, 101, 97, 115, 116, 32]⟩ ++ Y)) (namedT t ++ leastT t) w w3 := by
          refine ⟨?_, ?_, hC3, hF2.trans hF3⟩
          · congr 1
            apply bs_ext
            rw [HN.out, ← hYl]
            simp [wLeast, HS1.out]
          · rw [HN.out, List.length_append, ← HS1.out, bytes_len]
            simp [wLeast]
            have h1 : (namedT t).length ≤ 3000 := by
              have hql := quoteP_lenT t.name
              unfold namedT
              split
              · simp [wNamed]; omega
              · simp
            rw [← HS1.out, bytes_len] at h1
            omega
        have g1 : ¬ 9223372036854775807 < S1.size + 7 := by omega
        have g2 : ¬ 9223372036854775807 < S1.size + 7 + Y.size := by omega
        have HB := Lib.hid hb
        clear hb hY hYl hYs hC3 hF3 hsp2 hsl
        go_wp2_with fail
        go_meet
        exact HB.out
    case rest =>
      clear hspn he hC2 hF2 c1 hS1s HS1
      obtain ⟨w3, rfl⟩ : ∃ w3, w3 = wc := ⟨_, rfl⟩
      obtain ⟨rfl, hBl, hC3, hF3⟩ := hcut
      obtain ⟨S2, hS2⟩ : ∃ S2 : ByteArray, (⟨(namedT t ++ leastT t).toArray⟩ : ByteArray) = S2 := ⟨_, rfl⟩
      have hS2l : S2.data.toList = namedT t ++ leastT t := by rw [← hS2]
      have hS2s : S2.size ≤ 9000000 := by rw [← bytes_len, hS2l]; exact hBl
      rw [hS2]
      have hM3 := hM.fr hF3
      obtain ⟨A, L, C, rfl⟩ : ∃ A L C, v = .slice A L C := by obtain ⟨A, c, e, _⟩ := hM; exact ⟨A, _, c, e⟩
      have hLe : L = t.mat.length := by
        obtain ⟨A', c', e', _⟩ := hM
        injection e'
      have c2 := cell_of hC3 2
      simp only [List.getElem?_toArray, List.getElem?_cons_zero, List.getElem?_cons_succ] at c2
      have hmt := fun W (hW : Fr [] w3 W) => matchTextR_any t.mat hS _ W (hM3.fr hW)
      by_cases hm : t.mat = []
      · have hL0 : L = 0 := by rw [hLe, hm]; rfl
        have hr : testT t = namedT t ++ leastT t := by
          rw [HT.out]
          have : matsT t = [] := by unfold matsT; rw [if_neg (by simp [hm])]
          rw [this, List.append_nil]
        subst hL0
        have HR := Lib.hid hr
        clear hr hm hLe hmt hM3 hM HT
        go_wp2_with fail
        go_ret
        refine ⟨?_, hF3⟩
        rw [HR.out, hS2]
        rfl
      · have hL0 : (L : Int) > 0 := by
          rw [hLe]
          cases hml : t.mat with
          | nil => exact absurd hml hm
          | cons _ _ => simp
        have hmts : matsT t = 32 :: matchText t.mat := by unfold matsT; rw [if_pos hm]
        have HN := Lib.hid (And.intro hmts (And.intro hS2l HT.out))
        have hml := matchText_len hS
        clear hmts hm hLe hM3 hM hS2l
        go_wp2_with fail
        refine (hmt _ (Fr.refl _ _)).mono ?_
        rintro e w4 ⟨rfl, hF4⟩
        obtain ⟨Y, hY⟩ : ∃ Y : ByteArray, (⟨(matchText t.mat).toArray⟩ : ByteArray) = Y := ⟨_, rfl⟩
        have hYl : Y.data.toList = matchText t.mat := by rw [← hY]
        have hYs : Y.size ≤ 8000002 := by rw [← bytes_len, hYl]; exact hml
        rw [hY]
        have g1 : ¬ 9223372036854775807 < S2.size + 1 := by omega
        have g2 : ¬ 9223372036854775807 < S2.size + 1 + Y.size := by omega
        have HY := Lib.hid hYl
        clear hY hYl hml hmt
        go_wp2_with fail
        go_ret
        refine ⟨ret_val (congrArg Value.string ?_), hF3.trans hF4⟩
        apply bs_ext
        rw [HN.out.2.2, HN.out.1, ← HY.out]
        simp [HN.out.2.1]
end Go.Proofs.YtdhmloejgoacaaaGreatDoor
