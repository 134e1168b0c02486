/- logq.text. -/
import Derived.Test.YtdhmloejgoacaaaGreatDoorMw15
import Derived.Test.YtdhmloejgoacaaaGreatDoorLqNum
import Derived.Test.YtdhmloejgoacaaaGreatDoorMw04
import Derived.Test.YtdhmloejgoacaaaGreatDoorMw02
import Derived.Deep.DeepCutAuto
import Derived.Lib.AppendIntMem
set_option linter.unusedVariables false
set_option linter.unusedSimpArgs false
namespace Go.Proofs.YtdhmloejgoacaaaGreatDoor
open Go.RowKit Go.Bl Go.Lq

structure TextOK (q : Qy) : Prop where
  mat : Short q.mat
  tests : Short q.tests
  ops : ∀ m ∈ q.tests, m.key = [] → m.op = 3 ∨ m.op = 4
  level : 0 ≤ q.level ∧ q.level ≤ 24
  limit : 0 ≤ q.limit ∧ q.limit ≤ 1000
def strsOf (l : List Bs) : List Value := l.map fun b => .string ⟨b.toArray⟩
theorem digs_dec (n : Nat) : Lib.decDigits n = digs n := by
  induction n using Nat.strongRecOn with
  | ind n ih =>
    rw [Lib.decDigits, digs]
    by_cases h : n < 10
    · rw [dif_pos h, if_pos h]
    · rw [dif_neg h, if_neg h, ih (n / 10) (by omega)]
theorem itoa_any {n : Int} (h0 : 0 ≤ n) (h1 : n ≤ 1000) {w : World} (hG : GV w) : Calls Tryz.prog 78 #[.int .i64 n] w fun e w' => e = .returned (.string ⟨(digs n.toNat).toArray⟩) ∧ Fr [] w w' :=
  (Tryz.strconv_Itoa n (by omega) (by omega) w hG.tab).mono fun e w' ⟨he, k, os, hw⟩ => by
    refine ⟨?_, ?_⟩
    · rw [he, Lib.itoa, if_neg (by omega), digs_dec]
    · rw [hw]
      exact fr_newR (Lib.below_grow _ w (Nat.le_refl _) k os) []
theorem digs_len {n : Nat} (h : n ≤ 1000) : (digs n).length ≤ 4 := by
  rw [digs]
  split
  · simp
  · rw [digs]
    split
    · simp
    · rw [digs]
      split
      · simp
      · rw [digs, if_pos (by omega)]
        simp
/-- The parts so far. -/
def PRow (w : World) (ps : List Bs) (pv : Value) (wr : World) : Prop := wr.ownsRow w.heap.size 9 1 pv ps.length (strsOf ps) ∧ Fr [] w wr
theorem PRow.fr {w wr w2 : World} {ps : List Bs} {pv : Value} (h : PRow w ps pv wr) (hF : Fr [] wr w2) : PRow w ps pv w2 := ⟨row_fr h.1 hF (by simp), h.2.trans hF⟩
theorem PRow.push {w wa w3 : World} {ps : List Bs} {pv v3 : Value} {S : ByteArray} {x : Bs} (h : PRow w ps pv wa) (hg : wa.grownBy w3 pv.ownBlock) (hown : w3.ownsRow w.heap.size 9 1 v3 (ps.length + 1) (strsOf ps ++ [.string S])) (hS : S = ⟨x.toArray⟩) : PRow w (ps ++ [x]) v3 w3 := by
  refine ⟨?_, h.2.new (fr_grown hg) (fun i hi => (row_old h.1 (Option.mem_toList.1 hi)).1)⟩
  have e1 : (ps ++ [x]).length = ps.length + 1 := by simp
  have e2 : strsOf (ps ++ [x]) = strsOf ps ++ [.string S] := by unfold strsOf; rw [hS]; simp
  rw [e1, e2]
  exact hown
def TRel (WQ : World) (q : Qy) (pre : List Bs) (iv pv : Value) (wr : World) : Prop :=
  ∃ k, iv = .int .i64 ((k : Nat) : Int) ∧ k ≤ q.tests.length ∧ PRow WQ (pre ++ (q.tests.take k).map testText) pv wr
theorem matchText_len {l : List Mt} (h : Short l) : (matchText l).length ≤ 8000002 := by
  unfold matchText
  have : (joinP [44, 32] (l.map mtText)).length ≤ 8000000 := by
    refine Nat.le_trans (joinP_len [44, 32] 4000 (l.map mtText) (fun x hx => ?_)) (by rw [List.length_map]; have := h.1; simp only [List.length_cons, List.length_nil]; omega)
    obtain ⟨m, hm, rfl⟩ := List.mem_map.1 hx
    have h1 := h.2 m hm
    have h2 := signP_len m.op
    have h3 := quoteP_len m.val
    unfold mtText
    rw [List.length_append, List.length_append]
    omega
  simp only [List.length_cons, List.length_append, List.length_nil]
  omega
theorem map_bytes (L : List Bs) : L.map ((fun x => x.data.toList) ∘ fun b : Bs => ByteArray.mk b.toArray) = L := by
  have : ((fun x : ByteArray => x.data.toList) ∘ fun b : Bs => ByteArray.mk b.toArray) = id := by funext b; rfl
  rw [this, List.map_id]
theorem parts_short {q : Qy} (hq : TextOK q) : (joinP [32] ((partsP q).map ((fun x => x.data.toList) ∘ fun b : Bs => ByteArray.mk b.toArray))).length ≤ 140737488355328 := by
  rw [map_bytes]
  refine Nat.le_trans (joinP_len [32] 8000002 _ (fun x hx => ?_)) ?_
  · unfold partsP at hx
    simp only [List.mem_cons, List.mem_append, List.mem_map] at hx
    rcases hx with rfl | (hx | ⟨m, hm, rfl⟩) | hx
    · exact matchText_len hq.mat
    · split at hx
      · simp only [List.mem_singleton] at hx
        subst hx
        have := digs_len (n := q.level.toNat) (by have := hq.level; omega)
        simp [levelText, wLevel]
        omega
      · cases hx
    · have h1 := hq.tests.2 m hm
      have h2 := signP_len m.op
      have h3 := quoteP_len m.val
      unfold testText mtText
      split
      · simp only [List.length_cons, List.length_append]; omega
      · split <;> (simp only [List.length_cons, List.length_append, List.length_nil]; omega)
    · split at hx
      · simp only [List.mem_singleton] at hx
        subst hx
        have := digs_len (n := q.limit.toNat) (by have := hq.limit; omega)
        simp [limitText, wLimit]
        omega
      · cases hx
  · have : (partsP q).length ≤ 1003 := by
      unfold partsP
      have := hq.tests.1
      simp only [List.length_cons, List.length_append, List.length_map]
      split <;> split <;> simp <;> omega
    simp only [List.length_cons, List.length_nil]
    omega

set_option maxRecDepth 100000 in
set_option maxHeartbeats 800000 in
theorem text_any (q : Qy) (hq : TextOK q) (v : Value) (w : World) (hG : GV w) (h8 : 8 ≤ w.heap.size) (hv : QyV w v q) :
    Calls Tryz.prog 48 #[v] w fun e w' => e = .returned (.string ⟨(textP q).toArray⟩) ∧ Fr [] w w' := by
  obtain ⟨c2, c4, rfl, hm2, hm4⟩ := hv
  obtain ⟨i0, hi0, hz0, hz1, hz2⟩ := info_parts infoStr
  obtain ⟨WQ, hWQ⟩ : ∃ WQ, w.alloc (.cells #[c2, .int .i64 q.level, c4, .int .i64 q.limit] 24) = WQ := ⟨_, rfl⟩
  have hFQ : Fr [] w WQ := by rw [← hWQ]; exact (Fr.refl _ _).alloc _
  have hQB : WQ.heap[w.heap.size]? = some (.cells #[c2, .int .i64 q.level, c4, .int .i64 q.limit] 24 (0, 0)) := by rw [← hWQ]; exact heap_alloc w _
  have q0 := cell_of hQB 0
  simp only [List.getElem?_toArray, List.getElem?_cons_zero, List.getElem?_cons_succ] at q0
  have hMT := matchText_any q.mat hq.mat c2 WQ (hm2.fr hFQ)
  have HQB := Lib.hid hQB
  have HM4 := Lib.hid (hm4.fr hFQ)
  have HFQ := Lib.hid hFQ
  have hGQ := hG.below (hFQ.below (Nat.le_refl _) (by simp)) h8
  have hFQsize := hFQ.size
  clear hQB hm2 hm4 hFQ
  go_enter Tryz.func48, Tryz.ntmps48
  go_wp2_with fail
  (try rw [hWQ])
  refine hMT.mono ?_
  rintro e w1 ⟨rfl, hF1⟩
  have hr0 : PRow WQ [matchText q.mat] (.slice (some ⟨w1.heap.size, 0, none⟩) 1 1) (w1.alloc (.cells #[.string ⟨(matchText q.mat).toArray⟩] 9)) :=
    ⟨⟨rfl, .inr ⟨_, _, _, rfl, hF1.size, heap_alloc w1 _, Nat.le_refl _, by unfold maxLen; omega, rfl, rfl⟩⟩, hF1.alloc _⟩
  have HR0 := Lib.hid hr0
  have HF1 := Lib.hid hF1
  have hb1 := (hr0.2).obj HQB.out (by simp)
  have d1 := cell_of hb1 1
  simp only [List.getElem?_toArray, List.getElem?_cons_zero, List.getElem?_cons_succ] at d1
  have hG1 := hGQ.below (B := 8) (hr0.2.below (by have := hFQsize; omega) (by simp)) (by omega)
  have hlv := hq.level
  have hlm := hq.limit
  clear hr0 hF1 hb1
  go_upto_if 13 with fail
  go_cut [3] (fun s3 wx => PRow WQ (matchText q.mat :: levelPs q.level) s3 wx)
  case first =>
    by_cases h0 : q.level = 0
    · have h1 : (q.level == 0) = true := by simpa using h0
      go_wp2_with fail
      go_meet
      rw [h0]
      exact HR0.out
    · have h1 : (q.level == 0) = false := by simpa using h0
      have hit := itoa_any hlv.1 (by omega) hG1
      obtain ⟨D, hD⟩ : ∃ D : ByteArray, ⟨(digs q.level.toNat).toArray⟩ = D := ⟨_, rfl⟩
      have sD : D.size ≤ 4 := by rw [← hD, bs_size]; exact digs_len (by omega)
      have g1 : ¬ 9223372036854775807 < 8 + D.size := by omega
      have hcat : (ByteArray.mk #[124, 32, 108, 101, 118, 101, 108, 32] ++ D) = ⟨(levelText q.level).toArray⟩ := by
        apply bs_ext
        rw [← hD]
        simp [levelText, wLevel]
      rw [hD] at hit
      have HC := Lib.hid hcat
      clear hcat hD
      go_wp2_with fail
      refine hit.mono ?_
      rintro e w2 ⟨rfl, hF2⟩
      have HP := Lib.hid (HR0.out.fr (hF2.alloc (.cells #[.string (ByteArray.mk #[124, 32, 108, 101, 118, 101, 108, 32] ++ D)] 9)))
      have hW := (HR0.out.2.trans hF2).size
      clear hF2
      go_wp2_with (at_builtin; refine wpList_append_lies _ rfl (.tmp 14) (.tmp 19) 107 rfl WQ.heap.size 9 i0 (.string ⟨#[]⟩) 1 16 Tryz.underlying107 hi0 hz0 hz1 hz2 rfl (by omega) (.slice (some ⟨w1.heap.size, 0, none⟩) 1 1) 1 (strsOf [matchText q.mat]) (by simp [Act.eval]) HP.out.1 ⟨w2.heap.size, 0, none⟩ 1 1 [.string (ByteArray.mk #[124, 32, 108, 101, 118, 101, 108, 32] ++ D)] (by simp [Act.eval]) rfl (newsOne w2 _) (by simp [Value.oneCell']) (by omega) (by unfold maxLen; omega) (by omega) (by simp; omega) (w2.heap.size + 1) (by simp) ?_; intro gg cap' w3 hown3 hgrow3 hat3 hlt3)
      go_meet
      have hx := HP.out.push hgrow3 hown3 HC.out
      rw [show levelPs q.level = [levelText q.level] by unfold levelPs; rw [if_pos h0]]
      exact hx
  case rest =>
    have HP := Lib.hid hcut
    have hb2 := hcut.2.obj HQB.out (by simp)
    have d2 := cell_of hb2 2
    have d3 := cell_of hb2 3
    simp only [List.getElem?_toArray, List.getElem?_cons_zero, List.getElem?_cons_succ] at d2 d3
    obtain ⟨A4, cp4, rfl, hl4, hx4⟩ := HM4.out
    clear hcut hb2 d1 HR0 HF1
    obtain ⟨pre, hpre⟩ : ∃ pre, matchText q.mat :: levelPs q.level = pre := ⟨_, rfl⟩
    rw [hpre] at HP
    have hprel : pre.length ≤ 2 := by rw [← hpre]; unfold levelPs; split <;> simp
    have HX4 := Lib.hid hx4
    have HPRE := Lib.hid hpre
    clear hx4 hpre
    go_wp2_with fail
    go_loopw [3, 24] (fun pv iv wr => TRel WQ q pre iv pv wr) (fun _ iv _ => q.tests.length - (intOf iv).toNat)
    case atStart => exact ⟨0, rfl, by omega, by simpa using HP.out⟩
    case round =>
      obtain ⟨k, rfl, hk, hrow⟩ := hrel
      by_cases hk2 : k < q.tests.length
      · obtain ⟨ad, rfl, m0, m1, m2⟩ := HX4.out k hk2
        have c0 := cell_frS hrow.2 m0 (by simp)
        have c1 := cell_frS hrow.2 m1 (by simp)
        have c2 := cell_frS hrow.2 m2 (by simp)
        have hsp := World.cell?_spot c0
        clear m0 m1 m2
        obtain ⟨m, hm⟩ : ∃ m, q.tests[k] = m := ⟨_, rfl⟩
        rw [hm] at c0 c1 c2
        have hsh := hq.tests.2 m (by rw [← hm]; exact List.getElem_mem _)
        have hop := hq.ops m (by rw [← hm]; exact List.getElem_mem _)
        have HMEM : Hid (m ∈ q.tests) := (by rw [← hm]; exact List.getElem_mem _ : m ∈ q.tests)
        obtain ⟨K, hK⟩ : ∃ K : ByteArray, ⟨m.key.toArray⟩ = K := ⟨_, rfl⟩
        obtain ⟨V, hV⟩ : ∃ V : ByteArray, ⟨m.val.toArray⟩ = V := ⟨_, rfl⟩
        rw [hK] at c1
        rw [hV] at c2
        have hkl : (k : Int) < (q.tests.length : Int) := by omega
        have hlen := hq.tests.1
        have hk1 : k + 1 ≤ 100000 := by omega
        obtain ⟨TM, hTM⟩ : ∃ TM : ByteArray, ⟨(matchText [m]).toArray⟩ = TM := ⟨_, rfl⟩
        have hTl : (matchText [m]).length = (mtText m).length + 2 := by simp [matchText, joinP]
        have hml : (mtText m).length ≤ 4000 := by
          have h2 := signP_len m.op
          have h3 := quoteP_len m.val
          unfold mtText
          rw [List.length_append, List.length_append]
          omega
        obtain ⟨hi, hhi⟩ : ∃ hi, (mtText m).length + 1 = hi := ⟨_, rfl⟩
        have sTM : TM.size = hi + 1 := by rw [← hTM, bs_size, hTl, ← hhi]
        have hex : TM.extract 1 hi = ⟨(mtText m).toArray⟩ := by
          apply bs_ext
          rw [extract_list, ← hTM, ← hhi]
          simp [matchText, joinP]
        have hhl : hi ≤ 4001 := by omega
        have e1 : (1 : Int) ≤ (hi : Int) := by omega
        have e2 : (hi : Int) ≤ (hi : Int) + 1 := by omega
        have HHI := Lib.hid hhi
        clear hml hhi
        have htk : pre ++ (q.tests.take (k + 1)).map testText = (pre ++ (q.tests.take k).map testText) ++ [testText m] := by
          rw [List.take_add_one, List.getElem?_eq_getElem hk2, hm]
          simp
        have hbw := hrow.2.size
        obtain ⟨WE, hWE⟩ : ∃ WE, (wr.alloc (.cells #[.int .i64 m.op, .string K, .string V] 74)).alloc (.cells #[.int .i64 m.op, .string K, .string V] 74) = WE := ⟨_, rfl⟩
        have hFE : Fr [] wr WE := by rw [← hWE]; exact ((Fr.refl _ _).alloc _).alloc _
        have hE0 : WE.heap[wr.heap.size]? = some (.cells #[.int .i64 m.op, .string K, .string V] 74 (0, 0)) := by rw [← hWE]; exact Go.Bl.heap_alloc_old (heap_alloc wr _) _
        have hE1 : WE.heap[wr.heap.size + 1]? = some (.cells #[.int .i64 m.op, .string K, .string V] 74 (0, 0)) := by
          rw [← hWE]
          have := heap_alloc (wr.alloc (.cells #[.int .i64 m.op, .string K, .string V] 74)) (.cells #[.int .i64 m.op, .string K, .string V] 74)
          rw [size_alloc'] at this
          exact this
        have hMt := matchText_any [m] ⟨by simp, fun x hx => by rw [show x = m by simpa using hx]; exact hsh⟩ (.slice (some ⟨wr.heap.size + 1, 0, none⟩) 1 1) WE ⟨_, _, rfl, by simp, fun i hi => ⟨_, rfl, by
          obtain rfl : i = 0 := by simpa using hi
          refine ⟨?_, ?_, ?_⟩
          · rw [add_at', cell_of hE1]; rfl
          · rw [add_at', cell_of hE1, ← hK]; rfl
          · rw [add_at', cell_of hE1, ← hV]; rfl⟩⟩
        rw [hTM] at hMt
        have HH := Lib.hid (And.intro htk (And.intro hrow (And.intro hFE hE0)))
        have HK := Lib.hid (And.intro hK hV)
        clear htk hrow hFE hE0 hE1 hTM hTl hsh hm hK hV
        go_wp2_with fail
        (try rw [hWE])
        refine hMt.mono ?_
        rintro e w5 ⟨rfl, hF5⟩
        have hE5 := hF5.obj HH.out.2.2.2 (by simp)
        have j0 := cell_of hE5 0
        have j1 := cell_of hE5 1
        simp only [List.getElem?_toArray, List.getElem?_cons_zero, List.getElem?_cons_succ] at j0 j1
        have hp5 := HH.out.2.1.fr (HH.out.2.2.1.trans hF5)
        have HP5 := Lib.hid hp5
        clear hE5 hF5 hp5 hMt hWE
        have hpl : (pre ++ (q.tests.take k).map testText).length ≤ 1002 := by rw [List.length_append, List.length_map, List.length_take]; omega
        have hPl : (pre ++ (q.tests.take k).map testText).length = pre.length + k := by rw [List.length_append, List.length_map, List.length_take, Nat.min_eq_left (by omega)]
        have hw5 := HP5.out.2.size
        obtain ⟨M, hM⟩ : ∃ M : ByteArray, ⟨(mtText m).toArray⟩ = M := ⟨_, rfl⟩
        have hMs : M.size + 1 = hi := by rw [← hM, bs_size]; exact HHI.out
        rw [hM] at hex
        by_cases hkey : m.key = []
        · have hke : K.toList.isEmpty = true := by rw [← HK.out.1, hkey, ByteArray.toList_eq]; rfl
          obtain ⟨Z, hZ⟩ : ∃ Z : ByteArray, ⟨(quoteP m.val).toArray⟩ = Z := ⟨_, rfl⟩
          have sZ : Z.size ≤ 3000 := by rw [← hZ, bs_size]; have := quoteP_len m.val; have := (hq.tests.2 m HMEM.out).2; omega
          obtain ⟨X1, ht1, ht2⟩ : ∃ X1 : ByteArray, Calls Tryz.prog 79 #[.string M, .string ⟨#[61, 126]⟩] w5 (fun e w' => e = .returned (.string X1) ∧ w5 = w') ∧ Calls Tryz.prog 79 #[.string X1, .string ⟨#[33, 126]⟩] w5 (fun e w' => e = .returned (.string Z) ∧ w5 = w') := by
            have hMl : M.data.toList = signP m.op ++ quoteP m.val := by rw [← hM]; simp [mtText, hkey]
            rcases hop hkey with h3 | h4
            · refine ⟨Z, ?_, ?_⟩
              · refine (Tryz.strings_TrimPrefix M ⟨#[61, 126]⟩ w5).mono ?_
                rintro e w' ⟨rfl, rfl⟩
                refine ⟨?_, rfl⟩
                rw [hMl, h3, ← hZ]
                rfl
              · refine (Tryz.strings_TrimPrefix Z ⟨#[33, 126]⟩ w5).mono ?_
                rintro e w' ⟨rfl, rfl⟩
                refine ⟨?_, rfl⟩
                rw [← hZ]
                rfl
            · refine ⟨M, ?_, ?_⟩
              · refine (Tryz.strings_TrimPrefix M ⟨#[61, 126]⟩ w5).mono ?_
                rintro e w' ⟨rfl, rfl⟩
                refine ⟨?_, rfl⟩
                rw [hMl, h4, ← hM]
                simp [mtText, hkey, h4]
                rfl
              · refine (Tryz.strings_TrimPrefix M ⟨#[33, 126]⟩ w5).mono ?_
                rintro e w' ⟨rfl, rfl⟩
                refine ⟨?_, rfl⟩
                rw [hMl, h4, ← hZ]
                rfl
          have HZ := Lib.hid hZ
          clear hM hZ
          go_wp2_with fail
          refine ht1.mono ?_
          rintro e w' ⟨rfl, rfl⟩
          go_wp2_with fail
          refine ht2.mono ?_
          rintro e w' ⟨rfl, rfl⟩
          clear ht1 ht2
          obtain ⟨W6, hW6⟩ : ∃ W6, w5.alloc (.map #[] 0) = W6 := ⟨_, rfl⟩
          have hM6 : W6.heap[w5.heap.size]? = some (.map #[] 0) := by rw [← hW6]; exact heap_alloc w5 _
          have hF6 : Fr [] w5 W6 := by rw [← hW6]; exact (Fr.refl _ _).alloc _
          have hmk : (Instr.makeMap 110 none).run Tryz.prog w5 = .ok (.map (some w5.heap.size)) W6 := by rw [← hW6]; exact run_makeMap 110 w5
          have hp1 := put_lit1 hM6
          obtain ⟨W7, hW7⟩ : ∃ W7, W6.put w5.heap.size (.map lit1 1) = W7 := ⟨_, rfl⟩
          have hM7 : W7.heap[w5.heap.size]? = some (.map lit1 1) := by rw [← hW7]; exact heap_put (lt_of_obj hM6) _
          have hF7 : Fr [] w5 W7 := by rw [← hW7]; exact hF6.put (.inr (Nat.le_refl _)) _
          rw [hW7] at hp1
          have hp2 := put_lit2 hM7
          obtain ⟨W8, hW8⟩ : ∃ W8, W7.put w5.heap.size (.map lit2 2) = W8 := ⟨_, rfl⟩
          have hM8 : W8.heap[w5.heap.size]? = some (.map lit2 2) := by rw [← hW8]; exact heap_put (lt_of_obj hM7) _
          have hF8 : Fr [] w5 W8 := by rw [← hW8]; exact hF7.put (.inr (Nat.le_refl _)) _
          rw [hW8] at hp2
          have y0 := cell_frS hF8 j0 (by simp)
          have HP8 := Lib.hid (HP5.out.fr hF8)
          have hw8 := hF8.size
          have g3 : ¬ 9223372036854775807 < 3 + Z.size := by omega
          clear hW6 hW7 hW8 hM6 hM7 hF6 hF7 hF8
          rcases hop hkey with h3 | h3
          · have hopb : (m.op == 3) = true := by rw [h3]; rfl
            have hgt := get_lit hM8 true
            have hS : ByteArray.mk #[124, 61, 32] ++ Z = ⟨(testText m).toArray⟩ := by
              apply bs_ext
              rw [← HZ.out]
              simp [testText, hkey, h3]
            have HS := Lib.hid hS
            clear hS
            simp only [if_true, Bool.false_eq_true, if_false] at hgt
            go_wp2_with (at_builtin; refine wpList_append_lies _ rfl (.tmp 52) (.tmp 54) 107 rfl WQ.heap.size 9 i0 (.string ⟨#[]⟩) 1 16 Tryz.underlying107 hi0 hz0 hz1 hz2 rfl (by omega) u3 (pre ++ (q.tests.take k).map testText).length (strsOf (pre ++ (q.tests.take k).map testText)) (by simp [Act.eval]) (HP8.out.fr ((Fr.refl _ _).alloc (.cells #[.string (ByteArray.mk #[124, 61, 32] ++ Z)] 9))).1 ⟨W8.heap.size, 0, none⟩ 1 1 [.string (ByteArray.mk #[124, 61, 32] ++ Z)] (by simp [Act.eval]) rfl (newsOne W8 _) (by simp [Value.oneCell']) (by omega) (by unfold maxLen; omega) (by omega) (by simp; omega) (W8.heap.size + 1) (by simp) ?_; intro gg cap' w3 hown3 hgrow3 hat3 hlt3)
            have hx := (HP8.out.fr ((Fr.refl _ _).alloc (.cells #[.string (ByteArray.mk #[124, 61, 32] ++ Z)] 9))).push hgrow3 hown3 HS.out
            rw [← HH.out.1, hPl] at hx
            exact ⟨⟨k + 1, rfl, hk2, hx⟩, by simp [intOf]; omega⟩
          · have hopb : (m.op == 3) = false := by rw [h3]; rfl
            have hgt := get_lit hM8 false
            have hS : ByteArray.mk #[33, 61, 32] ++ Z = ⟨(testText m).toArray⟩ := by
              apply bs_ext
              rw [← HZ.out]
              simp [testText, hkey, h3]
            have HS := Lib.hid hS
            clear hS
            simp only [if_true, Bool.false_eq_true, if_false] at hgt
            go_wp2_with (at_builtin; refine wpList_append_lies _ rfl (.tmp 52) (.tmp 54) 107 rfl WQ.heap.size 9 i0 (.string ⟨#[]⟩) 1 16 Tryz.underlying107 hi0 hz0 hz1 hz2 rfl (by omega) u3 (pre ++ (q.tests.take k).map testText).length (strsOf (pre ++ (q.tests.take k).map testText)) (by simp [Act.eval]) (HP8.out.fr ((Fr.refl _ _).alloc (.cells #[.string (ByteArray.mk #[33, 61, 32] ++ Z)] 9))).1 ⟨W8.heap.size, 0, none⟩ 1 1 [.string (ByteArray.mk #[33, 61, 32] ++ Z)] (by simp [Act.eval]) rfl (newsOne W8 _) (by simp [Value.oneCell']) (by omega) (by unfold maxLen; omega) (by omega) (by simp; omega) (W8.heap.size + 1) (by simp) ?_; intro gg cap' w3 hown3 hgrow3 hat3 hlt3)
            have hx := (HP8.out.fr ((Fr.refl _ _).alloc (.cells #[.string (ByteArray.mk #[33, 61, 32] ++ Z)] 9))).push hgrow3 hown3 HS.out
            rw [← HH.out.1, hPl] at hx
            exact ⟨⟨k + 1, rfl, hk2, hx⟩, by simp [intOf]; omega⟩
        · have hke : K.toList.isEmpty = false := by
            rw [← HK.out.1, ByteArray.toList_eq]
            simpa using hkey
          have g1 : ¬ 9223372036854775807 < 2 + M.size := by omega
          have hS : ByteArray.mk #[124, 32] ++ M = ⟨(testText m).toArray⟩ := by
            apply bs_ext
            rw [← hM]
            simp [testText, hkey]
          have HS := Lib.hid hS
          clear hS hM
          go_wp2_with (at_builtin; refine wpList_append_lies _ rfl (.tmp 52) (.tmp 54) 107 rfl WQ.heap.size 9 i0 (.string ⟨#[]⟩) 1 16 Tryz.underlying107 hi0 hz0 hz1 hz2 rfl (by omega) u3 (pre ++ (q.tests.take k).map testText).length (strsOf (pre ++ (q.tests.take k).map testText)) (by simp [Act.eval]) (HP5.out.fr ((Fr.refl _ _).alloc (.cells #[.string (ByteArray.mk #[124, 32] ++ M)] 9))).1 ⟨w5.heap.size, 0, none⟩ 1 1 [.string (ByteArray.mk #[124, 32] ++ M)] (by simp [Act.eval]) rfl (newsOne w5 _) (by simp [Value.oneCell']) (by omega) (by unfold maxLen; omega) (by omega) (by simp; omega) (w5.heap.size + 1) (by simp) ?_; intro gg cap' w3 hown3 hgrow3 hat3 hlt3)
          have hx := (HP5.out.fr ((Fr.refl _ _).alloc (.cells #[.string (ByteArray.mk #[124, 32] ++ M)] 9))).push hgrow3 hown3 HS.out
          rw [← HH.out.1, hPl] at hx
          exact ⟨⟨k + 1, rfl, hk2, hx⟩, by simp [intOf]; omega⟩
      · obtain rfl : k = q.tests.length := by omega
        have g1 : ¬ (q.tests.length : Int) < (q.tests.length : Int) := by omega
        rw [List.take_of_length_le (Nat.le_refl _)] at hrow
        have hgrW := hGQ.below (B := 8) (hrow.2.below (by have := hFQsize; omega) (by simp)) (by omega)
        have hb3 := hrow.2.obj HQB.out (by simp)
        have d5 := cell_of hb3 3
        simp only [List.getElem?_toArray, List.getElem?_cons_zero, List.getElem?_cons_succ] at d5
        have hpl : (pre ++ q.tests.map testText).length ≤ 1002 := by have := hq.tests.1; rw [List.length_append, List.length_map]; omega
        have hPl : (pre ++ q.tests.map testText).length = pre.length + q.tests.length := by rw [List.length_append, List.length_map]
        have hparts : partsP q = (pre ++ q.tests.map testText) ++ limitPs q.limit := by
          unfold partsP
          rw [← HPRE.out]
          unfold levelPs limitPs
          simp
        have HP9 := Lib.hid hrow
        have HPARTS := Lib.hid hparts
        have hw9 := hrow.2.size
        clear hrow hb3 hparts
        obtain ⟨bl, hbl⟩ : ∃ bl, (q.limit != 0) = bl := ⟨_, rfl⟩
        go_upto_if 59 with fail
        go_cut [3] (fun s3 wx => PRow WQ (partsP q) s3 wx)
        case first =>
          have HBL := Lib.hid hbl
          clear hbl
          cases bl
          · go_wp2_with fail
            go_meet
            have h0 : q.limit = 0 := by simpa using HBL.out
            rw [HPARTS.out, h0]
            simpa [limitPs] using HP9.out
          · have hit := itoa_any hlm.1 hlm.2 hgrW
            obtain ⟨D, hD⟩ : ∃ D : ByteArray, ⟨(digs q.limit.toNat).toArray⟩ = D := ⟨_, rfl⟩
            have sD : D.size ≤ 4 := by rw [← hD, bs_size]; exact digs_len (by omega)
            have g2 : ¬ 9223372036854775807 < 8 + D.size := by omega
            have hcat : (ByteArray.mk #[124, 32, 108, 105, 109, 105, 116, 32] ++ D) = ⟨(limitText q.limit).toArray⟩ := by
              apply bs_ext
              rw [← hD]
              simp [limitText, wLimit]
            rw [hD] at hit
            have HC := Lib.hid hcat
            clear hcat hD
            go_wp2_with fail
            refine hit.mono ?_
            rintro e w2 ⟨rfl, hF2⟩
            have HPA := Lib.hid (HP9.out.fr (hF2.alloc (.cells #[.string (ByteArray.mk #[124, 32, 108, 105, 109, 105, 116, 32] ++ D)] 9)))
            have hW := (HP9.out.2.trans hF2).size
            clear hF2
            go_wp2_with (at_builtin; refine wpList_append_lies _ rfl (.tmp 60) (.tmp 65) 107 rfl WQ.heap.size 9 i0 (.string ⟨#[]⟩) 1 16 Tryz.underlying107 hi0 hz0 hz1 hz2 rfl (by omega) u3 (pre ++ q.tests.map testText).length (strsOf (pre ++ q.tests.map testText)) (by simp [Act.eval]) HPA.out.1 ⟨w2.heap.size, 0, none⟩ 1 1 [.string (ByteArray.mk #[124, 32, 108, 105, 109, 105, 116, 32] ++ D)] (by simp [Act.eval]) rfl (newsOne w2 _) (by simp [Value.oneCell']) (by omega) (by unfold maxLen; omega) (by omega) (by simp; omega) (w2.heap.size + 1) (by simp) ?_; intro gg cap' w3 hown3 hgrow3 hat3 hlt3)
            go_meet
            have hx := HPA.out.push hgrow3 hown3 HC.out
            have h0 : ¬ q.limit = 0 := by simpa using HBL.out
            rw [HPARTS.out, show limitPs q.limit = [limitText q.limit] by unfold limitPs; rw [if_pos h0]]
            rw [hPl] at hx
            exact hx
        case rest =>
          clear hbl
          have hl1 : 0 < (partsP q).length := by unfold partsP; simp
          have hl2 : (partsP q).length ≤ 1003 := by
            rw [HPARTS.out, List.length_append]
            have : (limitPs q.limit).length ≤ 1 := by unfold limitPs; split <;> simp
            omega
          obtain ⟨g, cap, rfl, hg1, hg2⟩ := hcut.1.form hl1
          have hcap : (partsP q).length ≤ cap := by
            rcases hcut.1.2 with ⟨h, _⟩ | ⟨g', cap', cur, h, _, _, h5, _⟩
            · cases h
            · cases h; exact h5
          have hJn := Tryz.strings_Join g 0 cap ((partsP q).map fun b => ⟨b.toArray⟩) ⟨#[32]⟩ _ (fun j x hx => by
            rw [List.getElem?_map] at hx
            obtain ⟨b, hb, rfl⟩ := Option.map_eq_some_iff.1 hx
            have := hcut.1.cells (g := g) rfl j (.string ⟨b.toArray⟩) (by unfold strsOf; rw [List.getElem?_map, hb]; rfl)
            rw [add_at'] at this
            rw [Nat.zero_add]
            exact this) hg2 (by rw [List.length_map]; omega) (by rw [List.length_map]; exact hcap) (by
            rw [joinP_inter, List.map_map]
            exact parts_short hq)
          rw [List.length_map, joinP_inter, List.map_map] at hJn
          have HF := Lib.hid (HFQ.out.trans hcut.2)
          clear hcut
          go_wp2_with fail
          refine hJn.mono ?_
          rintro e w5 ⟨rfl, hb⟩
          go_wp2_with fail
          go_ret
          refine ⟨?_, HF.out.trans (fr_newR hb [])⟩
          have hid := map_bytes (partsP q)
          exact congrArg (fun x => Ending.returned (.string ⟨(joinP [32] x).toArray⟩)) hid
end Go.Proofs.YtdhmloejgoacaaaGreatDoor
