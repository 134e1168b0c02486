/- A query's text out of its words (plain). -/
import Derived.Test.YtdhmloejgoacaaaGreatDoorMw26
import Derived.Test.YtdhmloejgoacaaaGreatDoorMw25
import Derived.Test.YtdhmloejgoacaaaGreatDoorTqSpanRef
import Derived.Test.YtdhmloejgoacaaaGreatDoorMw10
set_option linter.unusedVariables false
set_option linter.unusedSimpArgs false
namespace Go.Proofs.YtdhmloejgoacaaaGreatDoor
open Go.RowKit Go.Bl Go.Lq Go.Tq

def testW (t : St) : List Bs := nameW t ++ leastW t ++ matW t
def sp (l : List Bs) : Bs := l.flatMap fun x => 32 :: x
theorem sp_app (a b : List Bs) : sp (a ++ b) = sp a ++ sp b := by unfold sp; rw [List.flatMap_append]
theorem sp_test (t : St) : sp (testW t) = testT t := by
  unfold testW
  rw [sp_app, sp_app, testT_eq, List.append_assoc]
  have h1 : sp (nameW t) = namedT t := by
    unfold nameW namedT
    split <;> simp [sp]
  have h2 : sp (leastW t) = leastT t := by
    unfold leastW leastT
    split <;> simp [sp]
  have h3 : sp (matW t) = matsT t := by
    unfold matW matsT
    split <;> simp [sp]
  rw [h1, h2, h3]
theorem joinP_cons (x : Bs) (l : List Bs) : joinP [32] (x :: l) = x ++ sp l := by
  induction l generalizing x with
  | nil => simp [joinP, sp]
  | cons y r ih =>
    show x ++ ([32] ++ joinP [32] (y :: r)) = _
    rw [ih y]
    simp [sp]
/-- The words of a whole query. -/
def partsW (q : Tq) : List (List Bs) := if q.has = 0 then [testW q.first, limitW q.limit] else [testW q.first, hasW q.has, testW q.second, limitW q.limit]
theorem text_words {q : Tq} (h0 : 0 ≤ q.has) (h2 : q.has ≤ 2) : joinP [32] (wSpans :: (partsW q).flatten) = textT q := by
  rw [joinP_cons]
  unfold textT
  congr 1
  have hl : sp (limitW q.limit) = if q.limit ≠ 0 then 32 :: (wLimit ++ 32 :: digs q.limit.toNat) else [] := by
    unfold limitW
    split <;> simp_all [sp]
  unfold partsW
  by_cases h : q.has = 0
  · rw [if_pos h]
    simp only [List.flatten_cons, List.flatten_nil, List.append_nil]
    rw [sp_app, sp_test, hl, h, if_neg (show ¬ (0 : Int) = 1 by decide), if_neg (show ¬ (0 : Int) = 2 by decide)]
    rfl
  · rw [if_neg h]
    simp only [List.flatten_cons, List.flatten_nil, List.append_nil]
    rw [sp_app, sp_app, sp_app, sp_test, sp_test, hl]
    have h12 : q.has = 1 ∨ q.has = 2 := by omega
    rcases h12 with e | e <;> rw [e] <;> simp [hasW, sp]
/-- What a query must be for its text to be told. -/
structure TOk (q : Tq) : Prop where
  n1 : q.first.name.length ≤ 1024
  n2 : q.second.name.length ≤ 1024
  s1 : Short q.first.mat
  s2 : Short q.second.mat
  p1 : q.first.least ≠ 0 → spanP q.first.least ≠ none
  p2 : q.second.least ≠ 0 → spanP q.second.least ≠ none
  has : 0 ≤ q.has ∧ q.has ≤ 2
  limit : 0 ≤ q.limit ∧ q.limit ≤ 1000
theorem valueP_len {V : Bs → Bool} {v : Bs} (h : valueP V v = true) : v.length ≤ 1024 := by
  unfold valueP plainP at h
  simp at h
  omega
theorem wrongS_ok {V : Bs → Bool} {t : St} (h : wrongS V t = 0) : t.name.length ≤ 1024 ∧ Short t.mat ∧ (t.least ≠ 0 → spanP t.least ≠ none) := by
  unfold wrongS at h
  split at h
  · cases h
  · rename_i h1
    split at h
    · cases h
    · rename_i h2
      refine ⟨?_, rightM_short h, fun h3 h4 => h2 ⟨h3, h4⟩⟩
      by_cases hn : t.name = []
      · rw [hn]; simp
      · cases hv : valueP V t.name with
        | true => exact valueP_len hv
        | false => exact absurd ⟨hn, hv⟩ h1
theorem TOk.of {V : Bs → Bool} {q : Tq} (h1 : wrongS V q.first = 0) (h2 : wrongS V q.second = 0) (h3 : 0 ≤ q.has ∧ q.has ≤ 2) (h4 : 0 ≤ q.limit ∧ q.limit ≤ 1000) : TOk q := by
  obtain ⟨a1, a2, a3⟩ := wrongS_ok h1
  obtain ⟨b1, b2, b3⟩ := wrongS_ok h2
  exact ⟨a1, b1, a2, b2, a3, b3, h3, h4⟩
theorem spanD_len (n : Int) : (spanD n).length ≤ 11 := by
  unfold spanD
  cases h : spanP n with
  | none => simp
  | some t => exact (span_back h).2.2.2
theorem quoteP_lenT (v : Bs) : (quoteP v).length ≤ 2 * v.length + 2 := by
  have key : ∀ v : Bs, (v.flatMap esc).length ≤ 2 * v.length := by
    intro v
    induction v with
    | nil => simp
    | cons c cs ih =>
      rw [List.flatMap_cons, List.length_append, List.length_cons]
      have : (esc c).length ≤ 2 := by unfold esc; split <;> (try split) <;> (try split) <;> simp
      omega
  unfold quoteP
  have := key v
  rw [List.length_cons, List.length_append, List.length_cons, List.length_nil]
  omega
theorem testT_len {t : St} (h1 : t.name.length ≤ 1024) (h2 : Short t.mat) : (testT t).length ≤ 8010000 := by
  have hm := matchText_len h2
  have hq := quoteP_lenT t.name
  have hs := spanD_len t.least
  unfold testT
  rw [List.length_append, List.length_append]
  have a1 : (if t.name ≠ [] then 32 :: (wNamed ++ 32 :: quoteP t.name) else []).length ≤ 2100 := by
    split
    · simp [wNamed]; omega
    · simp
  have a2 : (if t.least ≠ 0 then 32 :: (wLeast ++ 32 :: spanD t.least) else []).length ≤ 30 := by
    split
    · simp [wLeast]; omega
    · simp
  have a3 : (if t.mat ≠ [] then 32 :: matchText t.mat else []).length ≤ 8000003 := by
    split
    · simp; omega
    · simp
  omega
theorem digs_lenT {n : Nat} (h : n ≤ 1000) : (digs n).length ≤ 4 := by
  have key : ∀ m, m < 10 → (digs m).length = 1 := fun m hm => by unfold digs; rw [if_pos hm]; rfl
  have step : ∀ m, (digs m).length ≤ (digs (m / 10)).length + 1 := fun m => by
    by_cases hm : m < 10
    · rw [key m hm]; omega
    · conv => lhs; unfold digs
      rw [if_neg hm]; simp
  have h1 := step n
  have h2 := step (n / 10)
  have h3 := step (n / 10 / 10)
  have h4 := key (n / 10 / 10 / 10) (by omega)
  omega
theorem text_len {q : Tq} (h : TOk q) : (textT q).length ≤ 17000000 := by
  have h1 := testT_len h.n1 h.s1
  have h2 := testT_len h.n2 h.s2
  have h3 := digs_lenT (n := q.limit.toNat) (by have := h.limit; omega)
  unfold textT
  rw [List.length_append, List.length_append, List.length_append]
  have a1 : (if q.has = 1 then 32 :: (wWith ++ 32 :: (wDesc ++ testT q.second)) else if q.has = 2 then 32 :: (wWith ++ 32 :: (wChild ++ testT q.second)) else []).length ≤ 8010100 := by
    split
    · simp [wWith, wDesc]; omega
    · split
      · simp [wWith, wChild]; omega
      · simp
  have a2 : (if q.limit ≠ 0 then 32 :: (wLimit ++ 32 :: digs q.limit.toNat) else []).length ≤ 100 := by
    split
    · simp [wLimit]; omega
    · simp
  have a3 : wSpans.length = 5 := rfl
  omega
theorem parts_len (q : Tq) : ∀ x ∈ partsW q, x.length ≤ 5 := by
  have ht : ∀ t : St, (testW t).length ≤ 5 := fun t => by
    unfold testW nameW leastW matW
    rw [List.length_append, List.length_append]
    split <;> split <;> split <;> simp
  have hl : (limitW q.limit).length ≤ 5 := by unfold limitW; split <;> simp
  have hh : (hasW q.has).length ≤ 5 := by unfold hasW; split <;> (try split) <;> simp
  intro x hx
  unfold partsW at hx
  split at hx <;> simp at hx
  · rcases hx with rfl | rfl
    · exact ht _
    · exact hl
  · rcases hx with rfl | rfl | rfl | rfl
    · exact ht _
    · exact hh
    · exact ht _
    · exact hl
end Go.Proofs.YtdhmloejgoacaaaGreatDoor
namespace Go.Proofs.YtdhmloejgoacaaaGreatDoor
open Go.RowKit Go.Bl Go.Lq Go.Tq

set_option maxRecDepth 100000 in
set_option maxHeartbeats 1600000 in
theorem rightTestR_any (t : St) (v : Value) (w : World) (hG : GV w) (h8 : 8 ≤ w.heap.size) (hM : Mts w v t.mat) :
    Calls Tryz.prog 70 #[.agg #[.string ⟨t.name.toArray⟩, .int .i64 t.least, v]] w fun e w' => e = .returned (.int .i64 (wrongS Lib.validD t)) ∧ Fr [] w w' := by
  obtain ⟨n, hn⟩ : ∃ n, t.least = n := ⟨_, rfl⟩
  obtain ⟨K, hK⟩ : ∃ K : ByteArray, ⟨t.name.toArray⟩ = K := ⟨_, rfl⟩
  have hKe := empty_iff K
  have hKl : K.data.toList = t.name := by rw [← hK]
  rw [hKl] at hKe
  rw [hK, hn]
  have hF1 : Fr [] w (w.alloc (.cells #[.string K, .int .i64 n, v] 45)) := (Fr.refl _ _).alloc _
  have hC1 := Go.Bl.heap_alloc w (.cells #[.string K, .int .i64 n, v] 45)
  have hG1 := hG.frn hF1 h8
  have h81 := Nat.le_trans h8 hF1.size
  have hM1 := hM.fr hF1
  obtain ⟨H, hH⟩ : ∃ H, w.heap.size = H := ⟨_, rfl⟩
  have hv := fun W => valueR_any K W
  rw [hKl] at hv
  obtain ⟨r, hr⟩ : ∃ r, wrongS Lib.validD t = r := ⟨_, rfl⟩
  rw [hr]
  unfold wrongS at hr
  rw [hn] at hr
  have HR := Lib.hid hr
  clear hr hK hKl hn
  rw [hH] at hC1
  go_enter Tryz.func70, Tryz.ntmps70
  go_upto_region 1 with fail
  obtain ⟨w1, hw1⟩ : ∃ w1, w.alloc (.cells #[.string K, .int .i64 n, v] 45) = w1 := ⟨_, rfl⟩
  rw [hw1] at hF1 hC1 hG1 h81 hM1 ⊢
  (try rw [hH])
  clear hw1 hM hG
  have c0 := cell_of hC1 0
  have c1 := cell_of hC1 1
  have c2 := cell_of hC1 2
  simp only [List.getElem?_toArray, List.getElem?_cons_zero, List.getElem?_cons_succ] at c0 c1 c2
  by_cases hk : t.name = []
  · rw [decide_eq_true hk] at hKe
    have HK := Lib.hid hk
    clear hk hv
    have hF2 : Fr [] w1 w1 := Fr.refl _ _
    have hG2 := hG1
    have h82 := h81
    have hC2 := hC1
    have hF12 := Lib.hid (hF1.trans hF2)
    have d0 := cell_of hC2 0
    have d1 := cell_of hC2 1
    have d2 := cell_of hC2 2
    simp only [List.getElem?_toArray, List.getElem?_cons_zero, List.getElem?_cons_succ] at d0 d1 d2
    have hM2 := Lib.hid (hM1.fr hF2)
    have hr : (if n ≠ 0 ∧ spanP n = none then 1 else rightM Lib.validD t.mat) = r := by
      have h := HR.out
      rw [if_neg (by simp [HK.out])] at h
      exact h
    have HR2 := Lib.hid hr
    clear hr hF2 c0 c1 c2
    by_cases hn0 : n = 0
    · have hn1 : (n != 0) = false := by simp [hn0]
      have hr : rightM Lib.validD t.mat = r := by rw [← HR2.out, if_neg (by simp [hn0])]
      have HRR := Lib.hid hr
      clear hr hn0
      go_wp2_with fail
      refine (rightMatchR_any t.mat v _ hM2.out).mono ?_
      rintro e w4 ⟨rfl, hF4⟩
      go_wp2_with fail
      go_ret
      exact ⟨by rw [← HRR.out]; rfl, hF12.out.trans hF4⟩
    · have hn1 : (n != 0) = true := by simp [hn0]
      have hsp := spanR_any n w1 hG2 h82
      have HN := Lib.hid hn0
      clear hn0
      go_wp2_with fail
      refine hsp.mono ?_
      rintro e w3 ⟨hF3, hs⟩
      clear hsp
      obtain ⟨sp, hsp⟩ : ∃ sp, spanP n = sp := ⟨_, rfl⟩
      rw [hsp] at hs
      have HS := Lib.hid hsp
      clear hsp
      have hC3 := hF3.obj hC2 (by simp)
      have f1 := cell_of hC3 1
      have f2 := cell_of hC3 2
      simp only [List.getElem?_toArray, List.getElem?_cons_zero, List.getElem?_cons_succ] at f1 f2
      have hM3 := Lib.hid (hM2.out.fr hF3)
      have hF13 := Lib.hid (hF12.out.trans hF3)
      clear hF3 d0 d1 d2 hC2 hC3
      cases sp with
      | none =>
        obtain rfl := hs
        have hr : (1 : Int) = r := by rw [← HR2.out, if_pos ⟨HN.out, HS.out⟩]
        have HRR := Lib.hid hr
        clear hr
        go_wp2_with fail
        go_ret
        exact ⟨by rw [← HRR.out]; rfl, hF13.out⟩
      | some x =>
        obtain rfl := hs
        have hr : rightM Lib.validD t.mat = r := by rw [← HR2.out, if_neg (by rw [HS.out]; simp)]
        have HRR := Lib.hid hr
        clear hr
        go_wp2_with fail
        refine (rightMatchR_any t.mat v _ hM3.out).mono ?_
        rintro e w4 ⟨rfl, hF4⟩
        go_wp2_with fail
        go_ret
        exact ⟨by rw [← HRR.out]; rfl, hF13.out.trans hF4⟩
  · rw [decide_eq_false hk] at hKe
    have HK := Lib.hid hk
    clear hk
    go_wp2_with fail
    refine (hv _).mono ?_
    rintro e w2 ⟨rfl, hF2⟩
    obtain ⟨b, hb⟩ : ∃ b, valueP Lib.validD t.name = b := ⟨_, rfl⟩
    rw [hb]
    have HB := Lib.hid hb
    clear hb hv
    have hG2 := hG1.frn hF2 h81
    have h82 := Nat.le_trans h81 hF2.size
    have hC2 := hF2.obj hC1 (by simp)
    cases b with
    | false =>
      have hr : (41 : Int) = r := by rw [← HR.out, if_pos ⟨HK.out, HB.out⟩]
      have HRR := Lib.hid hr
      have hF12 := Lib.hid (hF1.trans hF2)
      clear hr hF2
      go_wp2_with fail
      go_ret
      exact ⟨by rw [← HRR.out]; rfl, hF12.out⟩
    | true =>
      have hF12 := Lib.hid (hF1.trans hF2)
      have d0 := cell_of hC2 0
      have d1 := cell_of hC2 1
      have d2 := cell_of hC2 2
      simp only [List.getElem?_toArray, List.getElem?_cons_zero, List.getElem?_cons_succ] at d0 d1 d2
      have hM2 := Lib.hid (hM1.fr hF2)
      have hr : (if n ≠ 0 ∧ spanP n = none then 1 else rightM Lib.validD t.mat) = r := by
        have h := HR.out
        rw [if_neg (by rw [HB.out]; rintro ⟨_, h⟩; cases h)] at h
        exact h
      have HR2 := Lib.hid hr
      clear hr hF2 c0 c1 c2
      by_cases hn0 : n = 0
      · have hn1 : (n != 0) = false := by simp [hn0]
        have hr : rightM Lib.validD t.mat = r := by rw [← HR2.out, if_neg (by simp [hn0])]
        have HRR := Lib.hid hr
        clear hr hn0
        go_wp2_with fail
        refine (rightMatchR_any t.mat v _ hM2.out).mono ?_
        rintro e w4 ⟨rfl, hF4⟩
        go_wp2_with fail
        go_ret
        exact ⟨by rw [← HRR.out]; rfl, hF12.out.trans hF4⟩
      · have hn1 : (n != 0) = true := by simp [hn0]
        have hsp := spanR_any n w2 hG2 h82
        have HN := Lib.hid hn0
        clear hn0
        go_wp2_with fail
        refine hsp.mono ?_
        rintro e w3 ⟨hF3, hs⟩
        clear hsp
        obtain ⟨sp, hsp⟩ : ∃ sp, spanP n = sp := ⟨_, rfl⟩
        rw [hsp] at hs
        have HS := Lib.hid hsp
        clear hsp
        have hC3 := hF3.obj hC2 (by simp)
        have f1 := cell_of hC3 1
        have f2 := cell_of hC3 2
        simp only [List.getElem?_toArray, List.getElem?_cons_zero, List.getElem?_cons_succ] at f1 f2
        have hM3 := Lib.hid (hM2.out.fr hF3)
        have hF13 := Lib.hid (hF12.out.trans hF3)
        clear hF3 d0 d1 d2 hC2 hC3
        cases sp with
        | none =>
          obtain rfl := hs
          have hr : (1 : Int) = r := by rw [← HR2.out, if_pos ⟨HN.out, HS.out⟩]
          have HRR := Lib.hid hr
          clear hr
          go_wp2_with fail
          go_ret
          exact ⟨by rw [← HRR.out]; rfl, hF13.out⟩
        | some x =>
          obtain rfl := hs
          have hr : rightM Lib.validD t.mat = r := by rw [← HR2.out, if_neg (by rw [HS.out]; simp)]
          have HRR := Lib.hid hr
          clear hr
          go_wp2_with fail
          refine (rightMatchR_any t.mat v _ hM3.out).mono ?_
          rintro e w4 ⟨rfl, hF4⟩
          go_wp2_with fail
          go_ret
          exact ⟨by rw [← HRR.out]; rfl, hF13.out.trans hF4⟩
end Go.Proofs.YtdhmloejgoacaaaGreatDoor
namespace Go.Proofs.YtdhmloejgoacaaaGreatDoor
open Go.RowKit Go.Bl Go.Lq Go.Tq

set_option maxRecDepth 100000 in
set_option maxHeartbeats 1600000 in
theorem sameTestR_any (a b : St) (va vb : Value) (w : World) (ha : StV w va a) (hb : StV w vb b) (hs : a.mat.length ≤ 2000000) :
    Calls Tryz.prog 65 #[va, vb] w fun e w' => e = .returned (.bool (decide (a = b))) ∧ Fr [] w w' := by
  obtain ⟨ma, rfl, hma⟩ := ha
  obtain ⟨mb, rfl, hmb⟩ := hb
  obtain ⟨K, hK⟩ : ∃ K : ByteArray, ⟨a.name.toArray⟩ = K := ⟨_, rfl⟩
  obtain ⟨L, hL⟩ : ∃ L : ByteArray, ⟨b.name.toArray⟩ = L := ⟨_, rfl⟩
  have hKL : (K.toList == L.toList) = decide (a.name = b.name) := by
    rw [beq_toList, ← hK, ← hL]
  obtain ⟨m, hm⟩ : ∃ m, a.least = m := ⟨_, rfl⟩
  obtain ⟨n, hn⟩ : ∃ n, b.least = n := ⟨_, rfl⟩
  rw [hK, hL, hm, hn]
  have hd : decide (a = b) = (decide (a.name = b.name) && (decide (m = n) && decide (a.mat = b.mat))) := by
    rw [Bool.eq_iff_iff]
    simp [St.eq_iff, hm, hn]
  rw [hd]
  obtain ⟨x, hx⟩ : ∃ x, decide (a.name = b.name) = x := ⟨_, rfl⟩
  rw [hx] at hKL ⊢
  clear hd hK hL hx hm hn
  have hF1 : Fr [] w ((w.alloc (.cells #[.string K, .int .i64 m, ma] 45)).alloc (.cells #[.string L, .int .i64 n, mb] 45)) := ((Fr.refl _ _).alloc _).alloc _
  have hE := fun W (h : Fr [] w W) => sameMatch_any a.mat b.mat ma mb W (hma.fr h) (hmb.fr h) hs
  clear hma hmb
  have HF1 := Lib.hid hF1
  cases x
  · go_enter Tryz.func65, Tryz.ntmps65
    go_wp2_with fail
    go_ret
    exact ⟨rfl, HF1.out⟩
  · by_cases hmn : m = n
    · have h2 : (m == n) = true := by simpa using hmn
      have hd : decide (m = n) = true := by simpa using hmn
      subst hmn
      go_enter Tryz.func65, Tryz.ntmps65
      go_wp2_with fail
      refine (hE _ HF1.out).mono ?_
      rintro e w2 ⟨rfl, hF2⟩
      go_wp2_with fail
      go_ret
      exact ⟨by simp, HF1.out.trans hF2⟩
    · have h2 : (m == n) = false := by simpa using hmn
      have hd : decide (m = n) = false := by simpa using hmn
      rw [hd]
      go_enter Tryz.func65, Tryz.ntmps65
      go_wp2_with fail
      go_ret
      exact ⟨rfl, HF1.out⟩
set_option maxRecDepth 100000 in
set_option maxHeartbeats 1600000 in
theorem sameTR_any (a b : Tq) (va vb : Value) (w : World) (ha : TqV w va a) (hb : TqV w vb b) (hs : a.first.mat.length ≤ 2000000) (hs2 : a.second.mat.length ≤ 2000000) :
    Calls Tryz.prog 24 #[va, vb] w fun e w' => e = .returned (.bool (decide (a = b))) ∧ Fr [] w w' := by
  obtain ⟨m1, m2, rfl, hm1, hm2⟩ := ha
  obtain ⟨n1, n2, rfl, hn1, hn2⟩ := hb
  obtain ⟨x, hx⟩ : ∃ x, a.has = x := ⟨_, rfl⟩
  obtain ⟨y, hy⟩ : ∃ y, b.has = y := ⟨_, rfl⟩
  obtain ⟨p, hp⟩ : ∃ p, a.limit = p := ⟨_, rfl⟩
  obtain ⟨q, hq⟩ : ∃ q, b.limit = q := ⟨_, rfl⟩
  have hd : decide (a = b) = (decide (a.first = b.first) && (decide (a.second = b.second) && (decide (x = y) && decide (p = q)))) := by
    rw [Bool.eq_iff_iff]
    simp [Tq.eq_iff, hx, hy, hp, hq]
  rw [hd, hx, hy, hp, hq]
  have E1 := fun W (h : Fr [] w W) => sameTestR_any a.first b.first _ _ W ⟨m1, rfl, hm1.fr h⟩ ⟨n1, rfl, hn1.fr h⟩ hs
  have E2 := fun W (h : Fr [] w W) => sameTestR_any a.second b.second _ _ W ⟨m2, rfl, hm2.fr h⟩ ⟨n2, rfl, hn2.fr h⟩ hs2
  obtain ⟨u, hu⟩ : ∃ u, decide (a.first = b.first) = u := ⟨_, rfl⟩
  obtain ⟨v, hv⟩ : ∃ v, decide (a.second = b.second) = v := ⟨_, rfl⟩
  rw [hu] at E1 ⊢
  rw [hv] at E2 ⊢
  clear hd hu hv hx hy hp hq hm1 hm2 hn1 hn2
  obtain ⟨H, hH⟩ : ∃ H, w.heap.size = H := ⟨_, rfl⟩
  have hF1 : Fr [] w ((w.alloc (.cells #[.string ⟨a.first.name.toArray⟩, .int .i64 a.first.least, m1, .string ⟨a.second.name.toArray⟩, .int .i64 a.second.least, m2, .int .i64 x, .int .i64 p] 47)).alloc (.cells #[.string ⟨b.first.name.toArray⟩, .int .i64 b.first.least, n1, .string ⟨b.second.name.toArray⟩, .int .i64 b.second.least, n2, .int .i64 y, .int .i64 q] 47)) := ((Fr.refl _ _).alloc _).alloc _
  have hA : ((w.alloc (.cells #[.string ⟨a.first.name.toArray⟩, .int .i64 a.first.least, m1, .string ⟨a.second.name.toArray⟩, .int .i64 a.second.least, m2, .int .i64 x, .int .i64 p] 47)).alloc (.cells #[.string ⟨b.first.name.toArray⟩, .int .i64 b.first.least, n1, .string ⟨b.second.name.toArray⟩, .int .i64 b.second.least, n2, .int .i64 y, .int .i64 q] 47)).heap[H]? = some (.cells #[.string ⟨a.first.name.toArray⟩, .int .i64 a.first.least, m1, .string ⟨a.second.name.toArray⟩, .int .i64 a.second.least, m2, .int .i64 x, .int .i64 p] 47 (0, 0)) := by rw [← hH]; exact Go.Bl.heap_alloc_old (Go.Bl.heap_alloc w _) _
  have hB : ((w.alloc (.cells #[.string ⟨a.first.name.toArray⟩, .int .i64 a.first.least, m1, .string ⟨a.second.name.toArray⟩, .int .i64 a.second.least, m2, .int .i64 x, .int .i64 p] 47)).alloc (.cells #[.string ⟨b.first.name.toArray⟩, .int .i64 b.first.least, n1, .string ⟨b.second.name.toArray⟩, .int .i64 b.second.least, n2, .int .i64 y, .int .i64 q] 47)).heap[H + 1]? = some (.cells #[.string ⟨b.first.name.toArray⟩, .int .i64 b.first.least, n1, .string ⟨b.second.name.toArray⟩, .int .i64 b.second.least, n2, .int .i64 y, .int .i64 q] 47 (0, 0)) := by
    have := Go.Bl.heap_alloc (w.alloc (.cells #[.string ⟨a.first.name.toArray⟩, .int .i64 a.first.least, m1, .string ⟨a.second.name.toArray⟩, .int .i64 a.second.least, m2, .int .i64 x, .int .i64 p] 47)) (.cells #[.string ⟨b.first.name.toArray⟩, .int .i64 b.first.least, n1, .string ⟨b.second.name.toArray⟩, .int .i64 b.second.least, n2, .int .i64 y, .int .i64 q] 47)
    rw [size_alloc', hH] at this
    exact this
  go_enter Tryz.func24, Tryz.ntmps24
  go_upto_region 1 with fail
  obtain ⟨w1, hw1⟩ : ∃ w1, (w.alloc (.cells #[.string ⟨a.first.name.toArray⟩, .int .i64 a.first.least, m1, .string ⟨a.second.name.toArray⟩, .int .i64 a.second.least, m2, .int .i64 x, .int .i64 p] 47)).alloc (.cells #[.string ⟨b.first.name.toArray⟩, .int .i64 b.first.least, n1, .string ⟨b.second.name.toArray⟩, .int .i64 b.second.least, n2, .int .i64 y, .int .i64 q] 47) = w1 := ⟨_, rfl⟩
  rw [hw1] at hF1 hA hB ⊢
  clear hw1
  have c0 : ∀ W, Fr [] w1 W → W.cell? ⟨H, 0, none⟩ = some (.string ⟨a.first.name.toArray⟩) ∧ W.cell? ⟨H + 1, 0, none⟩ = some (.string ⟨b.first.name.toArray⟩) := fun W h => ⟨cell_frS h (cell_of hA 0) (by simp), cell_frS h (cell_of hB 0) (by simp)⟩
  have c1 : ∀ W, Fr [] w1 W → W.cell? ⟨H, 1, none⟩ = some (.int .i64 a.first.least) ∧ W.cell? ⟨H + 1, 1, none⟩ = some (.int .i64 b.first.least) := fun W h => ⟨cell_frS h (cell_of hA 1) (by simp), cell_frS h (cell_of hB 1) (by simp)⟩
  have c2 : ∀ W, Fr [] w1 W → W.cell? ⟨H, 2, none⟩ = some (m1) ∧ W.cell? ⟨H + 1, 2, none⟩ = some (n1) := fun W h => ⟨cell_frS h (cell_of hA 2) (by simp), cell_frS h (cell_of hB 2) (by simp)⟩
  have c3 : ∀ W, Fr [] w1 W → W.cell? ⟨H, 3, none⟩ = some (.string ⟨a.second.name.toArray⟩) ∧ W.cell? ⟨H + 1, 3, none⟩ = some (.string ⟨b.second.name.toArray⟩) := fun W h => ⟨cell_frS h (cell_of hA 3) (by simp), cell_frS h (cell_of hB 3) (by simp)⟩
  have c4 : ∀ W, Fr [] w1 W → W.cell? ⟨H, 4, none⟩ = some (.int .i64 a.second.least) ∧ W.cell? ⟨H + 1, 4, none⟩ = some (.int .i64 b.second.least) := fun W h => ⟨cell_frS h (cell_of hA 4) (by simp), cell_frS h (cell_of hB 4) (by simp)⟩
  have c5 : ∀ W, Fr [] w1 W → W.cell? ⟨H, 5, none⟩ = some (m2) ∧ W.cell? ⟨H + 1, 5, none⟩ = some (n2) := fun W h => ⟨cell_frS h (cell_of hA 5) (by simp), cell_frS h (cell_of hB 5) (by simp)⟩
  have c6 : ∀ W, Fr [] w1 W → W.cell? ⟨H, 6, none⟩ = some (.int .i64 x) ∧ W.cell? ⟨H + 1, 6, none⟩ = some (.int .i64 y) := fun W h => ⟨cell_frS h (cell_of hA 6) (by simp), cell_frS h (cell_of hB 6) (by simp)⟩
  have c7 : ∀ W, Fr [] w1 W → W.cell? ⟨H, 7, none⟩ = some (.int .i64 p) ∧ W.cell? ⟨H + 1, 7, none⟩ = some (.int .i64 q) := fun W h => ⟨cell_frS h (cell_of hA 7) (by simp), cell_frS h (cell_of hB 7) (by simp)⟩
  have HA := Lib.hid (And.intro hA hB)
  clear hA hB
  obtain ⟨d0, d0'⟩ := c0 w1 (Fr.refl _ _)
  obtain ⟨d1, d1'⟩ := c1 w1 (Fr.refl _ _)
  obtain ⟨d2, d2'⟩ := c2 w1 (Fr.refl _ _)
  obtain ⟨d3, d3'⟩ := c3 w1 (Fr.refl _ _)
  obtain ⟨d4, d4'⟩ := c4 w1 (Fr.refl _ _)
  obtain ⟨d5, d5'⟩ := c5 w1 (Fr.refl _ _)
  obtain ⟨d6, d6'⟩ := c6 w1 (Fr.refl _ _)
  obtain ⟨d7, d7'⟩ := c7 w1 (Fr.refl _ _)
  go_wp2_with fail
  refine (E1 _ hF1).mono ?_
  rintro e w2 ⟨rfl, hF2⟩
  clear d0 d1 d2 d3 d4 d5 d6 d7 d0' d1' d2' d3' d4' d5' d6' d7'
  cases u
  · go_wp2_with fail
    go_ret
    exact ⟨by simp, hF1.trans hF2⟩
  · obtain ⟨d3, d3'⟩ := c3 w2 hF2
    obtain ⟨d4, d4'⟩ := c4 w2 hF2
    obtain ⟨d5, d5'⟩ := c5 w2 hF2
    obtain ⟨d6, d6'⟩ := c6 w2 hF2
    obtain ⟨d7, d7'⟩ := c7 w2 hF2
    go_wp2_with fail
    refine (E2 _ (hF1.trans hF2)).mono ?_
    rintro e w3 ⟨rfl, hF3⟩
    clear d3 d4 d5 d6 d7 d3' d4' d5' d6' d7'
    cases v
    · go_wp2_with fail
      go_ret
      exact ⟨by simp, (hF1.trans hF2).trans hF3⟩
    · obtain ⟨d6, d6'⟩ := c6 w3 (hF2.trans hF3)
      obtain ⟨d7, d7'⟩ := c7 w3 (hF2.trans hF3)
      by_cases h1 : x = y
      · subst h1
        have q1 : (x == x) = true := by simp
        by_cases h2 : p = q
        · subst h2
          have q2 : (p == p) = true := by simp
          go_wp2_with fail
          go_ret
          exact ⟨by simp, (hF1.trans hF2).trans hF3⟩
        · have q2 : (p == q) = false := by simpa using h2
          go_wp2_with fail
          go_ret
          exact ⟨by simp [h2], (hF1.trans hF2).trans hF3⟩
      · have q1 : (x == y) = false := by simpa using h1
        go_wp2_with fail
        go_ret
        exact ⟨by simp [h1], (hF1.trans hF2).trans hF3⟩
end Go.Proofs.YtdhmloejgoacaaaGreatDoor
