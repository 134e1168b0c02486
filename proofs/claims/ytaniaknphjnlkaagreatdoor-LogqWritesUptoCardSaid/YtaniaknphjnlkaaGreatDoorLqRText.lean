/- The reference's text of a query. -/
import Derived.Test.YtaniaknphjnlkaaGreatDoorLqRMText
import Derived.Test.YtaniaknphjnlkaaGreatDoorLqText
import Derived.Test.YtaniaknphjnlkaaGreatDoorMw34
import Derived.Deep.DeepCutAuto
import Derived.Deep.RegionHeld3
namespace Go.Proofs.YtaniaknphjnlkaaGreatDoor
open Go.RowKit Go.Bl Go.Lq

theorem testsR_len {l : List Mt} (h : ∀ m ∈ l, m.key.length ≤ 1024 ∧ m.val.length ≤ 1024) : (testsR l).length ≤ l.length * 4008 := by
  induction l with
  | nil => simp [testsR]
  | cons x xs ih =>
    have h1 := ih (fun m hm => h m (by simp [hm]))
    have h2 := h x (by simp)
    have h3 := signP_len x.op
    have h4 := quoteP_len x.val
    have h5 : (testR x).length ≤ 4008 := by
      unfold testR testText mtText
      split
      · simp only [List.length_cons, List.length_append]; omega
      · split <;> (simp only [List.length_cons, List.length_append, List.length_nil]; omega)
    unfold testsR at h1 ⊢
    rw [List.flatMap_cons, List.length_append, List.length_cons]
    omega
theorem levelR_len {q : Qy} (h : TextOK q) : (levelR q).length ≤ 100 := by
  unfold levelR
  split
  · have := digs_len (n := q.level.toNat) (by have := h.level; omega)
    simp [levelText, wLevel]
    omega
  · simp
def worldFr {S : List Nat} {w w' : World} (_ : Fr S w w') : World := w'
theorem cells3 {WE w' : World} {b : Nat} {x y z : Value} {T : TypeId} (hE : WE.heap[b]? = some (.cells #[x, y, z] T (0, 0))) (hF : Fr [] WE w') :
    w'.cell? ⟨b, 0, none⟩ = some x ∧ w'.cell? ⟨b, 1, none⟩ = some y ∧ w'.cell? ⟨b, 2, none⟩ = some z ∧ Fr [] WE w' := by
  have h := hF.obj hE (by simp)
  exact ⟨cell_of h 0, cell_of h 1, cell_of h 2, hF⟩
def headR (q : Qy) : Bs := matchText q.mat ++ levelR q
def TQRel (q : Qy) (w : World) (iv sv : Value) (wr : World) : Prop :=
  ∃ k, iv = .int .i64 ((k : Nat) : Int) ∧ k ≤ q.tests.length ∧ sv = .string ⟨(headR q ++ testsR (q.tests.take k)).toArray⟩ ∧ Fr [] w wr
theorem headR_len {q : Qy} (h : TextOK q) : (headR q).length ≤ 8000200 := by
  have h1 := matchText_len h.mat
  have h2 := levelR_len h
  unfold headR
  rw [List.length_append]
  omega
set_option maxRecDepth 100000 in
set_option maxHeartbeats 800000 in
theorem textQR_any (q : Qy) (hq : TextOK q) (v : Value) (w : World) (hG : GV w) (h8 : 8 ≤ w.heap.size) (hv : QyV w v q) :
    Calls Tryz.prog 29 #[v] w fun e w' => e = .returned (.string ⟨(textP q).toArray⟩) ∧ Fr [] w w' := by
  obtain ⟨c2, c4, rfl, hm2, hm4⟩ := hv
  obtain ⟨WQ, hWQ⟩ : ∃ WQ, w.alloc (.cells #[c2, .int .i64 q.level, c4, .int .i64 q.limit] 24) = WQ := ⟨_, rfl⟩
  have hFQ : Fr [] w WQ := by rw [← hWQ]; exact (Fr.refl _ _).alloc _
  have hQB : WQ.heap[w.heap.size]? = some (.cells #[c2, .int .i64 q.level, c4, .int .i64 q.limit] 24 (0, 0)) := by rw [← hWQ]; exact heap_alloc w _
  have q0 := cell_of hQB 0
  simp only [List.getElem?_toArray, List.getElem?_cons_zero, List.getElem?_cons_succ] at q0
  have hMT := matchTextR_any q.mat hq.mat c2 WQ (hm2.fr hFQ)
  have hMl := matchText_len hq.mat
  obtain ⟨M, hM⟩ : ∃ M : ByteArray, ⟨(matchText q.mat).toArray⟩ = M := ⟨_, rfl⟩
  have sM : M.size ≤ 8000002 := by rw [← hM, bs_size]; exact hMl
  rw [hM] at hMT
  obtain ⟨H, hH⟩ : ∃ H : ByteArray, ⟨(headR q).toArray⟩ = H := ⟨_, rfl⟩
  obtain ⟨lvl, hlvl⟩ : ∃ x, q.level = x := ⟨_, rfl⟩
  obtain ⟨lim, hlim⟩ : ∃ x, q.limit = x := ⟨_, rfl⟩
  rw [hlvl, hlim] at hWQ hQB
  rw [hlvl, hlim]
  have hlv := hq.level
  have hlm := hq.limit
  rw [hlvl] at hlv
  rw [hlim] at hlm
  have HQ := Lib.hid (And.intro hQB (And.intro (hm4.fr hFQ) (And.intro hFQ (And.intro hM (And.intro hH (And.intro hlvl hlim))))))
  clear hQB hm2 hm4 hFQ hM hMl hH hlvl hlim
  go_enter Tryz.func29, Tryz.ntmps29
  go_wp2_with fail
  (try rw [hWQ])
  refine hMT.mono ?_
  rintro e w1 ⟨rfl, hF1⟩
  have hb1 := hF1.obj HQ.out.1 (by simp)
  have d1 := cell_of hb1 1
  simp only [List.getElem?_toArray, List.getElem?_cons_zero, List.getElem?_cons_succ] at d1
  have hF1w := HQ.out.2.2.1.trans hF1
  have hG1 := hG.below (B := 8) (hF1w.below h8 (by simp)) (by omega)
  have HF1 := Lib.hid hF1
  clear hF1 hF1w hb1 hMT hWQ q0
  obtain ⟨bl, hbl⟩ : ∃ bl, (lvl == 0) = bl := ⟨_, rfl⟩
  have HBL := Lib.hid hbl
  go_upto_if 11 with fail
  go_cut [3] (fun s3 wx => s3 = .string H ∧ Fr [] w1 wx)
  case first =>
    cases bl with
    | true =>
      go_wp2_with fail
      go_meet
      have h0 : q.level = 0 := by rw [HQ.out.2.2.2.2.2.1]; simpa using HBL.out
      refine ⟨?_, Fr.refl _ _⟩
      rw [← HQ.out.2.2.2.2.1, ← HQ.out.2.2.2.1]
      unfold headR levelR
      rw [if_neg (by simp [h0]), List.append_nil]
    | false =>
      have hit := itoa_any (n := lvl) hlv.1 (by omega) hG1
      obtain ⟨D, hD⟩ : ∃ D : ByteArray, ⟨(digs lvl.toNat).toArray⟩ = D := ⟨_, rfl⟩
      rw [hD] at hit
      have sD : D.size ≤ 4 := by rw [← hD, bs_size]; exact digs_len (by omega)
      have g1 : ¬ 9223372036854775807 < M.size + 9 := by omega
      have g2 : ¬ 9223372036854775807 < M.size + 9 + D.size := by omega
      have HD := Lib.hid hD
      clear hD
      go_wp2_with fail
      refine hit.mono ?_
      rintro e w2 ⟨rfl, hF2⟩
      go_wp2_with fail
      go_meet
      have h0 : q.level ≠ 0 := by rw [HQ.out.2.2.2.2.2.1]; simpa using HBL.out
      refine ⟨?_, hF2⟩
      rw [← HQ.out.2.2.2.2.1, ← HQ.out.2.2.2.1, ← HD.out]
      congr 1
      apply bs_ext
      unfold headR levelR
      rw [if_pos h0, HQ.out.2.2.2.2.2.1]
      simp [levelText, wLevel]
  case rest =>
    obtain ⟨rfl, hFc⟩ := hcut
    obtain ⟨w2, rfl⟩ : ∃ w2, w2 = wc := ⟨_, rfl⟩
    have hF12 := HF1.out.trans hFc
    have hb2 := hF12.obj HQ.out.1 (by simp)
    have d2 := cell_of hb2 2
    simp only [List.getElem?_toArray, List.getElem?_cons_zero, List.getElem?_cons_succ] at d2
    obtain ⟨A4, cp4, rfl, hl4, hx4⟩ := HQ.out.2.1
    have HX4 := Lib.hid hx4
    have hlen := hq.tests.1
    have hshort := hq.tests.2
    have HSH := Lib.hid hshort
    have HB2 := Lib.hid (And.intro hb2 hF12)
    clear hx4 hb2 hF12 hFc hbl hshort d1
    go_wp2_with fail
    go_loopw [4, 3] (fun iv sv wr => TQRel q w2 iv sv wr) (fun iv _ _ => q.tests.length - (intOf iv).toNat)
    case atStart => exact ⟨0, rfl, by omega, (by rw [← HQ.out.2.2.2.2.1]; simp [testsR]), Fr.refl _ _⟩
    case round =>
      obtain ⟨k, rfl, hk, rfl, hF⟩ := hrel
      have hsl := testsR_len (l := q.tests.take k) (fun m hm => HSH.out m (List.mem_of_mem_take hm))
      rw [List.length_take] at hsl
      have hhl := headR_len hq
      obtain ⟨S, hSS⟩ : ∃ S : ByteArray, ⟨(headR q ++ testsR (q.tests.take k)).toArray⟩ = S := ⟨_, rfl⟩
      have sS : S.size ≤ 20000000 := by rw [← hSS, bs_size, List.length_append]; omega
      rw [hSS]
      have hbw := hF.obj HB2.out.1 (by simp)
      have b2 := cell_of hbw 2
      have b3 := cell_of hbw 3
      simp only [List.getElem?_toArray, List.getElem?_cons_zero, List.getElem?_cons_succ] at b2 b3
      clear hsl hhl hbw
      by_cases hk2 : k < q.tests.length
      · obtain ⟨ad, rfl, m0, m1, m2⟩ := HX4.out k hk2
        have hFw := (HB2.out.2.trans hF)
        have c0 := cell_frS hFw m0 (by simp)
        have c1 := cell_frS hFw m1 (by simp)
        have c2 := cell_frS hFw m2 (by simp)
        have hsp := World.cell?_spot c0
        clear m0 m1 m2 hFw
        obtain ⟨m, hm⟩ : ∃ m, q.tests[k] = m := ⟨_, rfl⟩
        rw [hm] at c0 c1 c2
        have hsh := HSH.out m (by rw [← hm]; exact List.getElem_mem _)
        have hok := hq.ops m (by rw [← hm]; exact List.getElem_mem _)
        have hsnoc : testsR (q.tests.take (k + 1)) = testsR (q.tests.take k) ++ testR m := by
          rw [List.take_add_one, List.getElem?_eq_getElem hk2, hm]
          exact testsR_snoc _ _
        obtain ⟨op, hop⟩ : ∃ op, m.op = op := ⟨_, rfl⟩
        obtain ⟨K, hK⟩ : ∃ K : ByteArray, ⟨m.key.toArray⟩ = K := ⟨_, rfl⟩
        obtain ⟨V, hV⟩ : ∃ V : ByteArray, ⟨m.val.toArray⟩ = V := ⟨_, rfl⟩
        obtain ⟨Z, hZ⟩ : ∃ Z : ByteArray, ⟨(quoteP m.val).toArray⟩ = Z := ⟨_, rfl⟩
        obtain ⟨G, hG⟩ : ∃ G : ByteArray, ⟨(signP m.op).toArray⟩ = G := ⟨_, rfl⟩
        have sK : K.size ≤ 1024 := by rw [← hK, bs_size]; exact hsh.1
        have sV : V.size ≤ 1024 := by rw [← hV, bs_size]; exact hsh.2
        have sG : G.size ≤ 2 := by rw [← hG, bs_size]; exact signP_len _
        have sZ : Z.size ≤ 3000 := by rw [← hZ, bs_size]; have := quoteP_len m.val; omega
        have hqt := quoteR_any V sV
        rw [show V.data.toList = m.val by rw [← hV], hZ] at hqt
        have hsg := opR_any m.op
        rw [hG, hop] at hsg
        rw [hop] at c0
        rw [hK] at c1
        rw [hV] at c2
        have hKe := empty_iff K
        rw [show K.data.toList = m.key by rw [← hK]] at hKe
        have hk1 : k + 1 ≤ 100000 := by omega
        have hkl : (k : Int) < (q.tests.length : Int) := by omega
        have hnext : ∀ x : ByteArray, x.data.toList = testR m → S ++ x = ⟨(headR q ++ testsR (q.tests.take (k + 1))).toArray⟩ := by
          intro x hx
          apply bs_ext
          rw [hsnoc, ← hSS]
          simp [hx]
        have hEB := heap_alloc wr (.cells #[.int .i64 op, .string K, .string V] 56)
        have HH := Lib.hid (And.intro hnext (And.intro hF (And.intro hop (And.intro hK (And.intro hZ (And.intro hG hok))))))
        have HEB := Lib.hid hEB
        clear hnext hF hsnoc hK hV hZ hG hSS hsh hm hop hok hEB
        have hFE : Fr [] wr (wr.alloc (.cells #[.int .i64 op, .string K, .string V] 56)) := (Fr.refl _ _).alloc _
        by_cases hky : m.key = []
        · rw [decide_eq_true hky] at hKe
          have ho := HH.out.2.2.2.2.2.2 hky
          rw [HH.out.2.2.1] at ho
          have g3 : ¬ 9223372036854775807 < S.size + 4 := by omega
          have g4 : ¬ 9223372036854775807 < S.size + 4 + Z.size := by omega
          have HKY := Lib.hid hky
          clear hky
          rcases ho with rfl | rfl
          · go_wp2_with fail
            refine (hqt _).mono ?_
            rintro e w3 ⟨rfl, hF3⟩
            go_wp2_with fail
            refine ⟨⟨k + 1, rfl, hk2, ?_, (HH.out.2.1.trans hFE).trans hF3⟩, by simp [intOf]; omega⟩
            rw [← HH.out.1 (⟨#[32, 124, 61, 32]⟩ ++ Z) (by rw [← HH.out.2.2.2.2.1]; simp [testR, testText, HKY.out, HH.out.2.2.1])]
            congr 1
            apply bs_ext
            simp
          · go_wp2_with fail
            refine (hqt _).mono ?_
            rintro e w3 ⟨rfl, hF3⟩
            go_wp2_with fail
            refine ⟨⟨k + 1, rfl, hk2, ?_, (HH.out.2.1.trans hFE).trans hF3⟩, by simp [intOf]; omega⟩
            rw [← HH.out.1 (⟨#[32, 33, 61, 32]⟩ ++ Z) (by rw [← HH.out.2.2.2.2.1]; simp [testR, testText, HKY.out, HH.out.2.2.1])]
            congr 1
            apply bs_ext
            simp
        · rw [decide_eq_false hky] at hKe
          have g3 : ¬ 9223372036854775807 < S.size + 3 := by omega
          have g4 : ¬ 9223372036854775807 < S.size + 3 + K.size := by omega
          have g5 : ¬ 9223372036854775807 < S.size + 3 + K.size + G.size := by omega
          have g6 : ¬ 9223372036854775807 < S.size + 3 + K.size + G.size + Z.size := by omega
          have HKY := Lib.hid hky
          clear hky
          have hcat : S ++ ⟨#[32, 124, 32]⟩ ++ K ++ G ++ Z = ⟨(headR q ++ testsR (q.tests.take (k + 1))).toArray⟩ := by
            rw [← HH.out.1 (⟨#[32, 124, 32]⟩ ++ K ++ G ++ Z) (by rw [← HH.out.2.2.2.1, ← HH.out.2.2.2.2.1, ← HH.out.2.2.2.2.2.1]; simp [testR, testText, HKY.out, mtText])]
            apply bs_ext
            simp
          obtain ⟨WE, hWE⟩ : ∃ WE, wr.alloc (.cells #[.int .i64 op, .string K, .string V] 56) = WE := ⟨_, rfl⟩
          have hEB := HEB.out
          rw [hWE] at hEB hFE
          obtain ⟨x0, x1, x2, _⟩ := cells3 hEB (Fr.refl [] WE)
          have HCA := Lib.hid (And.intro hcat (And.intro hFE hEB))
          clear hcat hEB hFE
          go_wp2_with fail
          (try rw [hWE])
          go_wp2_with fail
          (try rw [hWE])
          clear hWE
          go_region_held3 (fun w' => w'.cell? ⟨wr.heap.size, 0, none⟩ = some (.int .i64 op) ∧ w'.cell? ⟨wr.heap.size, 1, none⟩ = some (.string K) ∧ w'.cell? ⟨wr.heap.size, 2, none⟩ = some (.string V) ∧ Fr [] WE w') (exact cells3 HCA.out.2.2 (by (repeat (first | with_reducible exact Fr.refl _ _ | assumption | with_reducible refine Fr.drew ?_)))) (first | (go_at_call 51; refine (hsg _).mono ?_; rintro e w4 ⟨rfl, hF4⟩; have hX : Fr [] WE w4 := Fr.trans (by (repeat (first | with_reducible exact Fr.refl _ _ | assumption | with_reducible refine Fr.drew ?_))) hF4) | (go_at_call 52; refine (hqt _).mono ?_; rintro e w4 ⟨rfl, hF4⟩; have hX : Fr [] WE w4 := Fr.trans (by (repeat (first | with_reducible exact Fr.refl _ _ | assumption | with_reducible refine Fr.drew ?_))) hF4))
          all_goals
            rename_i hh
            obtain ⟨y0, y1, y2, y3⟩ := hh
            go_wp2_with fail
            refine ⟨⟨k + 1, rfl, hk2, ?_, (HH.out.2.1.trans HCA.out.2.1).trans y3⟩, by simp [intOf]; omega⟩
            rw [HCA.out.1]
      · obtain rfl : k = q.tests.length := by omega
        have g1 : ¬ (q.tests.length : Int) < (q.tests.length : Int) := by omega
        rw [List.take_of_length_le (Nat.le_refl _)] at hSS
        have htx := textP_ref q
        have hFw := (HB2.out.2.trans hF)
        have hGw := hG.below (B := 8) ((HQ.out.2.2.1.trans hFw).below h8 (by simp)) (by omega)
        have HSS := Lib.hid (And.intro hSS (And.intro htx (HQ.out.2.2.1.trans hFw)))
        clear hSS htx hF hFw
        obtain ⟨bm, hbm⟩ : ∃ bm, (lim == 0) = bm := ⟨_, rfl⟩
        have HBM := Lib.hid hbm
        cases bm with
        | true =>
          go_wp2_with fail
          go_ret
          refine ⟨?_, HSS.out.2.2⟩
          have h0 : q.limit = 0 := by rw [HQ.out.2.2.2.2.2.2]; simpa using HBM.out
          rw [HSS.out.2.1, ← HSS.out.1]
          unfold limitR headR
          rw [if_neg (by simp [h0]), List.append_nil, List.append_assoc]
          rfl
        | false =>
          have hit := itoa_any (n := lim) hlm.1 hlm.2 hGw
          obtain ⟨D, hD⟩ : ∃ D : ByteArray, ⟨(digs lim.toNat).toArray⟩ = D := ⟨_, rfl⟩
          rw [hD] at hit
          have sD : D.size ≤ 4 := by rw [← hD, bs_size]; exact digs_len (by omega)
          have g3 : ¬ 9223372036854775807 < S.size + 9 := by omega
          have g4 : ¬ 9223372036854775807 < S.size + 9 + D.size := by omega
          have HD := Lib.hid hD
          clear hD
          go_wp2_with fail
          refine hit.mono ?_
          rintro e w3 ⟨rfl, hF3⟩
          go_wp2_with fail
          go_ret
          refine ⟨?_, HSS.out.2.2.trans hF3⟩
          have h0 : q.limit ≠ 0 := by rw [HQ.out.2.2.2.2.2.2]; simpa using HBM.out
          have hfin : S ++ ⟨#[32, 124, 32, 108, 105, 109, 105, 116, 32]⟩ ++ D = ⟨(textP q).toArray⟩ := by
            apply bs_ext
            rw [HSS.out.2.1, ← HSS.out.1, ← HD.out]
            unfold limitR headR
            rw [if_pos h0, HQ.out.2.2.2.2.2.2]
            simp [limitText, wLimit]
          rw [← hfin]
          rfl
end Go.Proofs.YtaniaknphjnlkaaGreatDoor
