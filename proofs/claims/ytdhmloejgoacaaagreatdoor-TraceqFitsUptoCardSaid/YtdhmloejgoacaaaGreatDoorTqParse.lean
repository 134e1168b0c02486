/- traceq.Parse. -/
import Derived.Test.YtdhmloejgoacaaaGreatDoorMw40
set_option linter.unusedVariables false
set_option linter.unusedSimpArgs false
namespace Go.Proofs.YtdhmloejgoacaaaGreatDoor
open Go.RowKit Go.Bl Go.Lq Go.Tq

def zeroTQ : Array Value := #[.string ⟨#[]⟩, .int .i64 0, .slice none 0 0, .string ⟨#[]⟩, .int .i64 0, .slice none 0 0, .int .i64 0, .int .i64 0]
def PaPost (s : ByteArray) (w : World) (e : Ending) (w' : World) : Prop :=
  ∃ v n, e = .returned (.tuple #[v, .int .i64 (parseTP Lib.validD s.data.toList).2, .int .i64 n]) ∧ TqV w' v (parseTP Lib.validD s.data.toList).1 ∧ Fr [] w w' ∧ (EndAt s.data.toList → s.size ≤ 1024 → n = (s.size : Int))
theorem zero_TqV (w : World) : TqV w (.agg zeroTQ) zeroT := ⟨.slice none 0 0, .slice none 0 0, rfl, Mts.nil w, Mts.nil w⟩
/-- The state: what is read, the place for the answer, what has changed. -/
structure PSt (b Q A : Nat) (s : ByteArray) (E : Prop) (res : Option (Tq × Bs)) (W w : World) : Prop where
  stp : Stp b Q s E res w
  ans : w.heap[A]? = some (.cells zeroTQ 47 (0, 0))
  fr : Fr [b, Q] W w
theorem PSt.go {b Q A : Nat} {s : ByteArray} {E E' : Prop} {res res' : Option (Tq × Bs)} {W w w' : World} (h : PSt b Q A s E res W w) (hF : Fr [b, Q] w w') (hst : Stp b Q s E' res' w') (hA : A ≠ b) (hAQ : A ≠ Q) : PSt b Q A s E' res' W w' :=
  ⟨hst, hF.obj h.ans (by simp; exact ⟨hA, hAQ⟩), h.fr.trans hF⟩
theorem PSt.new {b Q A : Nat} {s : ByteArray} {E : Prop} {res : Option (Tq × Bs)} {W w w' : World} (h : PSt b Q A s E res W w) (hF : Fr [] w w') : PSt b Q A s E res W w' :=
  ⟨h.stp.fr hF, hF.obj h.ans (by simp), h.fr.trans (hF.mono (fun i hi => by simp at hi))⟩
def wset8 (w : World) (A : Nat) (x0 x1 x2 x3 x4 x5 x6 x7 : Value) : World :=
  (((((((w.setCell ⟨A, 0, none⟩ x0).setCell ⟨A, 1, none⟩ x1).setCell ⟨A, 2, none⟩ x2).setCell ⟨A, 3, none⟩ x3).setCell ⟨A, 4, none⟩ x4).setCell ⟨A, 5, none⟩ x5).setCell ⟨A, 6, none⟩ x6).setCell ⟨A, 7, none⟩ x7
theorem set8 {w : World} {A : Nat} {cs : Array Value} {T : TypeId} (h : w.heap[A]? = some (.cells cs T (0, 0))) (hc : cs.size = 8) (x0 x1 x2 x3 x4 x5 x6 x7 : Value) :
    (wset8 w A x0 x1 x2 x3 x4 x5 x6 x7).heap[A]? = some (.cells #[x0, x1, x2, x3, x4, x5, x6, x7] T (0, 0)) := by
  obtain ⟨l, rfl⟩ : ∃ l : List Value, cs = l.toArray := ⟨cs.toList, by simp⟩
  have hl : l.length = 8 := by simpa using hc
  match l, hl, h with
  | [a0, a1, a2, a3, a4, a5, a6, a7], _, h =>
    unfold wset8
    rw [heap_setCell (heap_setCell (heap_setCell (heap_setCell (heap_setCell (heap_setCell (heap_setCell (heap_setCell h 0 x0) 1 x1) 2 x2) 3 x3) 4 x4) 5 x5) 6 x6) 7 x7]
    simp only [List.setIfInBounds_toArray, List.set_cons_zero, List.set_cons_succ]
theorem set8_fr {S : List Nat} {w0 w : World} {A : Nat} (h : Fr S w0 w) (hA : w0.heap.size ≤ A) (x0 x1 x2 x3 x4 x5 x6 x7 : Value) : Fr S w0 (wset8 w A x0 x1 x2 x3 x4 x5 x6 x7) :=
  (((((((h.setCell (.inr hA) _).setCell (.inr hA) _).setCell (.inr hA) _).setCell (.inr hA) _).setCell (.inr hA) _).setCell (.inr hA) _).setCell (.inr hA) _).setCell (.inr hA) _
theorem set8_frA (w : World) (A : Nat) (x0 x1 x2 x3 x4 x5 x6 x7 : Value) : Fr [A] w (wset8 w A x0 x1 x2 x3 x4 x5 x6 x7) :=
  (((((((((Fr.refl [A] w).setCell1 0 _).setCell1 1 _).setCell1 2 _).setCell1 3 _).setCell1 4 _).setCell1 5 _).setCell1 6 _).setCell1 7 _)
theorem NoMt.zero : NoMt zeroTQ := by
  unfold zeroTQ
  intro k a x hk hk2
  match k, hk, hk2 with
  | 0, _, h => cases h
  | 1, h, _ => cases h
  | 2, h, _ => cases h
  | 3, _, h => cases h
  | 4, h, _ => cases h
  | 5, h, _ => cases h
  | 6, h, _ => cases h
  | 7, h, _ => cases h
set_option maxRecDepth 100000 in
set_option maxHeartbeats 8000000 in
theorem parseT_any (s : ByteArray) (w : World) (hG : GV w) (hE : GE w ∨ LimOk s.data.toList) (h8 : 8 ≤ w.heap.size) : Calls Tryz.prog 23 #[.string s] w (PaPost s w) := by
  obtain ⟨A, hA⟩ : ∃ A, w.heap.size = A := ⟨_, rfl⟩
  have hF0 : Fr [] w (w.alloc (.cells zeroTQ 47)) := (Fr.refl _ _).alloc _
  have hA0 := Go.Bl.heap_alloc w (.cells zeroTQ 47)
  obtain ⟨w0, hw0⟩ : ∃ w0, w.alloc (.cells zeroTQ 47) = w0 := ⟨_, rfl⟩
  rw [hw0, hA] at hA0
  rw [hw0] at hF0
  have hA8 : 8 ≤ A := by omega
  obtain ⟨l, hl⟩ : ∃ l, s.data.toList = l := ⟨_, rfl⟩
  have hll : l.length = s.size := by rw [← hl, bytes_len]
  have hAe : Hid (w.heap.size = A) := Lib.hid hA
  go_enter Tryz.func23, Tryz.ntmps23
  go_upto_region 1 with fail
  unfold zeroTQ at hw0
  (try rw [hw0])
  (try rw [hA])
  clear hw0 hA
  by_cases hsz : 1024 < s.size
  · have hp : parseTP Lib.validD s.data.toList = (zeroT, 4) := by unfold parseTP; rw [if_pos (by rw [bytes_len]; exact hsz)]
    have hsz2 : (s.size : Int) > 1024 := by omega
    have HP := Lib.hid hp
    clear hp hll hl
    have a0 := cell_of hA0 0
    have a1 := cell_of hA0 1
    have a2 := cell_of hA0 2
    have a3 := cell_of hA0 3
    have a4 := cell_of hA0 4
    have a5 := cell_of hA0 5
    have a6 := cell_of hA0 6
    have a7 := cell_of hA0 7
    have z0 := frozen_of hA0 0
    have z1 := frozen_of hA0 1
    have z2 := frozen_of hA0 2
    have z3 := frozen_of hA0 3
    have z4 := frozen_of hA0 4
    have z5 := frozen_of hA0 5
    have z6 := frozen_of hA0 6
    have z7 := frozen_of hA0 7
    unfold zeroTQ at a0 a1 a2 a3 a4 a5 a6 a7
    simp only [List.getElem?_toArray, List.getElem?_cons_zero, List.getElem?_cons_succ] at a0 a1 a2 a3 a4 a5 a6 a7
    go_wp2_with fail
    have hAz := hA0
    have hEN : EndAt s.data.toList → s.size ≤ 1024 → (0 : Int) = (s.size : Int) := fun _ h => by omega
    obtain ⟨w9, hw9⟩ : ∃ w9, wset8 w0 A (.string ⟨#[]⟩) (.int .i64 0) (.slice none 0 0) (.string ⟨#[]⟩) (.int .i64 0) (.slice none 0 0) (.int .i64 0) (.int .i64 0) = w9 := ⟨_, rfl⟩
    have hA9 := set8 (w := w0) hAz rfl (.string ⟨#[]⟩) (.int .i64 0) (.slice none 0 0) (.string ⟨#[]⟩) (.int .i64 0) (.slice none 0 0) (.int .i64 0) (.int .i64 0)
    have hF9 : Fr [] w w9 := by rw [← hw9]; exact set8_fr hF0 (Nat.le_of_eq hAe.out) _ _ _ _ _ _ _ _
    rw [hw9] at hA9
    unfold wset8 at hw9
    rw [hw9]
    clear a0 a1 a2 a3 a4 a5 a6 a7 z0 z1 z2 z3 z4 z5 z6 z7 hw9
    have hA10 : w9.heap[A]? = some (.cells zeroTQ 47 (0, 0)) := hA9
    have a0 := cell_of hA10 0
    have a1 := cell_of hA10 1
    have a2 := cell_of hA10 2
    have a3 := cell_of hA10 3
    have a4 := cell_of hA10 4
    have a5 := cell_of hA10 5
    have a6 := cell_of hA10 6
    have a7 := cell_of hA10 7
    unfold zeroTQ at a0 a1 a2 a3 a4 a5 a6 a7
    simp only [List.getElem?_toArray, List.getElem?_cons_zero, List.getElem?_cons_succ] at a0 a1 a2 a3 a4 a5 a6 a7
    refine bodyPost_ret (v := .tuple #[.agg zeroTQ, .int .i64 4, .int .i64 0]) ?_ rfl ⟨_, 0, by rw [HP.out], by rw [HP.out]; exact zero_TqV _, hF9, hEN⟩
    simp [results, Tryz.results23, go_sem, a0, a1, a2, a3, a4, a5, a6, a7, zeroTQ]
  have hsz2 : ¬ (s.size : Int) > 1024 := by omega
  have hp : parseTP Lib.validD s.data.toList = match readAll l with
      | none => (zeroT, 131)
      | some q => if rightT Lib.validD q ≠ 0 then (zeroT, rightT Lib.validD q) else (q, 0) := by
    rw [hl]
    unfold parseTP
    rw [if_neg (by omega)]
    rfl
  have hF1 : Fr [] w (w0.alloc (.cells zeroTQ 47)) := hF0.alloc _
  have hQ1 := Go.Bl.heap_alloc w0 (.cells zeroTQ 47)
  have hA1 := (Fr.refl [] w0).alloc (.cells zeroTQ 47) |>.obj hA0 (by simp)
  obtain ⟨Q, hQ⟩ : ∃ Q, w0.heap.size = Q := ⟨_, rfl⟩
  have hAQ : A < Q := by rw [← hQ]; exact lt_of_obj hA0
  rw [hQ] at hQ1
  go_upto_region 4 with fail
  obtain ⟨w1, hw1⟩ : ∃ w1, w0.alloc (.cells zeroTQ 47) = w1 := ⟨_, rfl⟩
  rw [hw1] at hF1 hQ1 hA1
  unfold zeroTQ at hw1
  (try rw [hw1])
  (try rw [hQ])
  clear hw1 hA0 hF0
  have hF2 : Fr [] w (w1.alloc (.cells #[.string s, .int .i64 0, .bool false] 84)) := hF1.alloc _
  have hR2 := fresh_Ar 84 s (by omega) w1
  have hQ2 := (Fr.refl [] w1).alloc (.cells #[.string s, .int .i64 0, .bool false] 84) |>.obj hQ1 (by simp)
  have hA2 := (Fr.refl [] w1).alloc (.cells #[.string s, .int .i64 0, .bool false] 84) |>.obj hA1 (by simp)
  obtain ⟨b, hb⟩ : ∃ b, w1.heap.size = b := ⟨_, rfl⟩
  have hQb : Q < b := by rw [← hb]; exact lt_of_obj hQ1
  rw [hb] at hR2
  go_upto_region 5 with fail
  obtain ⟨w2, hw2⟩ : ∃ w2, w1.alloc (.cells #[.string s, .int .i64 0, .bool false] 84) = w2 := ⟨_, rfl⟩
  rw [hw2] at hF2 hR2 hQ2 hA2 ⊢
  (try rw [hb])
  clear hw2 hF1 hQ1 hA1 hb hQ
  go_wp2_with fail
  refine (wordRead_any ⟨#[115, 112, 97, 110, 115]⟩ b s _ false _ hR2).mono ?_
  rintro e w3 ⟨rfl, hR3, hF3⟩
  rw [show (ByteArray.data ⟨#[115, 112, 97, 110, 115]⟩).toList = wSpans from rfl, hl] at hR3
  have hst3 : Stp b Q s False (startRes l) w3 := by
    have hQ3 := hF3.obj hQ2 (by simp; omega)
    have hq : QAt w3 Q zeroT := ⟨.slice none 0 0, .slice none 0 0, hQ3, Mts.nil _, Mts.nil _⟩
    unfold startRes readWord
    unfold wordR at hR3
    by_cases hw : wordL l = wSpans
    · rw [if_pos hw] at hR3 ⊢
      exact ⟨hq, hR3⟩
    · rw [if_neg hw] at hR3 ⊢
      exact ⟨zeroT, _, hq, hR3, fun h => h.elim⟩
  have hF23 : Fr [b, Q] w w3 := (hF2.mono (T := [b, Q]) (fun i hi => by simp at hi)).trans (fr2 hF3)
  have hP3 : PSt b Q A s False (startRes l) w w3 := ⟨hst3, hF3.obj hA2 (by simp; omega), hF23⟩
  have hbQ : b ≠ Q := by omega
  have hAb : A ≠ b := by omega
  have hAQ2 : A ≠ Q := by omega
  have hb8 : 8 ≤ b := by omega
  have hQ8 : 8 ≤ Q := by omega
  have hz0 : ∀ t r, startRes l = some (t, r) → t = zeroT := fun t r h => by
    unfold startRes at h
    cases hw : readWord wSpans l with
    | none => rw [hw] at h; cases h
    | some x => rw [hw] at h; cases h; rfl
  have HP := Lib.hid hp
  have HL := Lib.hid (And.intro hl (And.intro hll hz0))
  clear hst3 hF23 hF3 hR3 hR2 hF2 hQ2 hA2 hp hl hll hz0
  have hGs : ∀ {W : World} {E res}, PSt b Q A s E res w W → GV W ∧ 8 ≤ W.heap.size := fun h => ⟨hG.below (h.fr.below (B := 8) h8 (by simp; omega)) (Nat.le_refl _), Nat.le_trans h8 h.fr.size⟩
  go_wp2_with fail
  refine (testFirst_any b Q s _ _ w3 hP3.stp (fun t r h => by rw [HL.out.2.2 t r h]; rfl) (by omega) (hGs hP3).1 hb8 hQ8 hbQ).mono ?_
  rintro e w4 ⟨rfl, hF4, hst4⟩
  have hP4 := hP3.go hF4 (hst4.imp (E' := False) (fun h => h.elim)) hAb hAQ2
  obtain ⟨r1, hr1⟩ : ∃ r1, bindQ (startRes l) putFirst readTest = r1 := ⟨_, rfl⟩
  have hz1 : ∀ t r, r1 = some (t, r) → t.has = 0 ∧ t.second = emptySt ∧ t.limit = 0 := fun t r h => by
    rw [← hr1] at h
    obtain ⟨t0, r0, x, h1, rfl⟩ := bindQ_mem h
    rw [HL.out.2.2 t0 r0 h1]
    exact ⟨rfl, rfl, rfl⟩
  rw [hr1] at hP4
  have HR1 := Lib.hid (And.intro hr1 hz1)
  clear hst4 hF4 hP3 hr1 hz1
  have hP5 := hP4.new ((Fr.refl [] w4).alloc (.cells #[.iface 85 (.string ⟨#[119, 105, 116, 104]⟩)] 128))
  have hS5 := Go.Bl.heap_alloc w4 (.cells #[.iface 85 (.string ⟨#[119, 105, 116, 104]⟩)] 128)
  have hlt := hP4.stp.lt
  obtain ⟨S, hS⟩ : ∃ S, w4.heap.size = S := ⟨_, rfl⟩
  rw [hS] at hS5 hlt
  obtain ⟨w5, hw5⟩ : ∃ w5, w4.alloc (.cells #[.iface 85 (.string ⟨#[119, 105, 116, 104]⟩)] 128) = w5 := ⟨_, rfl⟩
  rw [hw5] at hP5 hS5
  go_wp2_with fail
  (try rw [hw5])
  (try rw [hS])
  refine (perW hP5.stp hS5 (by omega) hbQ).mono ?_
  rintro e w6 ⟨v, rfl, hF6, hcase⟩
  rw [show (ByteArray.data ⟨#[119, 105, 116, 104]⟩).toList = wWith from rfl] at hcase
  have hP6 : ∀ {E res}, Stp b Q s E res w6 → PSt b Q A s E res w w6 := fun h => hP5.go hF6 h hAb hAQ2
  clear hP4 hlt hS hw5 hS5
  go_upto_if 23 with fail
  go_cut [] (fun wx => PSt b Q A s (WithEnd r1) (hasRes r1) w wx)
  case first =>
    rcases hcase with ⟨rfl, t, l1, hr, hwl, hst⟩ | ⟨rfl, hno, hst⟩
    · have hPa := hP6 hst
      have hres := hasRes_with (t := t) hwl
      rw [← hr] at hres
      have hzt := (HR1.out.2 t l1 hr).2.1
      have HRE := Lib.hid (And.intro hres hzt)
      obtain ⟨l2, hl2⟩ : ∃ l2, (skipL l1).drop wWith.length = l2 := ⟨_, rfl⟩
      rw [hl2] at hPa HRE
      have HWE := Lib.hid (fun h : WithEnd r1 => WithEnd.two h hr hl2)
      clear hP6 hst hr hwl hres hzt hl2
      have hP7 := hPa.new ((Fr.refl [] w6).alloc (.cells #[.iface 85 (.string ⟨#[100, 101, 115, 99, 101, 110, 100, 97, 110, 116]⟩)] 128))
      have hSS := Go.Bl.heap_alloc w6 (.cells #[.iface 85 (.string ⟨#[100, 101, 115, 99, 101, 110, 100, 97, 110, 116]⟩)] 128)
      have hlt := hPa.stp.lt
      obtain ⟨S7, hS⟩ : ∃ S7, w6.heap.size = S7 := ⟨_, rfl⟩
      rw [hS] at hSS hlt
      obtain ⟨wa7, hwa⟩ : ∃ wa7, w6.alloc (.cells #[.iface 85 (.string ⟨#[100, 101, 115, 99, 101, 110, 100, 97, 110, 116]⟩)] 128) = wa7 := ⟨_, rfl⟩
      rw [hwa] at hP7 hSS
      go_wp2_with fail
      (try rw [hwa])
      (try rw [hS])
      refine (perW hP7.stp hSS (by omega) hbQ).mono ?_
      rintro e w7 ⟨v7, rfl, hF7, hcase⟩
      rw [show (ByteArray.data ⟨#[100, 101, 115, 99, 101, 110, 100, 97, 110, 116]⟩).toList = wDesc from rfl] at hcase
      have hQ7 : ∀ {E res}, Stp b Q s E res w7 → PSt b Q A s E res w w7 := fun h => hP7.go hF7 h hAb hAQ2
      clear hlt hS hwa hSS hPa
      rcases hcase with ⟨rfl, t', l', hr, hwl, hst⟩ | ⟨rfl, hno, hst⟩
      · obtain ⟨rfl, rfl⟩ : t = t' ∧ l2 = l' := by cases hr; exact ⟨rfl, rfl⟩
        have hkr : kindRes t l2 = some ({ t with has := 1 }, (skipL l2).drop wDesc.length) := by unfold kindRes readKind; rw [if_pos hwl]; rfl
        clear hr
        obtain ⟨⟨⟨u1, u2, hq1, _, _⟩, hA1⟩, _⟩ := And.intro hst trivial
        have k6 := cell_of hq1 6
        have z6 := frozen_of hq1 6
        unfold QC at k6
        simp only [List.getElem?_toArray, List.getElem?_cons_zero, List.getElem?_cons_succ] at k6
        have hst2 : Stp b Q s False (kindRes t l2) (w7.setCell ⟨Q, 6, none⟩ (.int .i64 1)) := by
          have := hst.set (o := 6) (x := .int .i64 1) (t' := { t with has := 1 }) hbQ (fun v1 v2 => rfl) ⟨rfl, rfl⟩
          rw [hkr]
          exact this
        have hPb := (hQ7 hst).go ((Fr.refl [b, Q] w7).setCell (p := ⟨Q, 6, none⟩) (.inl (by simp)) (.int .i64 1)) hst2 hAb hAQ2
        have HPB := Lib.hid hPb
        clear hst hst2 hPb hq1 hA1 hQ7
        go_upto_region 13 with fail
        obtain ⟨wb, hwb⟩ : ∃ wb, w7.setCell ⟨Q, 6, none⟩ (.int .i64 1) = wb := ⟨_, rfl⟩
        have hPb : PSt b Q A s False (kindRes t l2) w wb := by rw [← hwb]; exact HPB.out
        have HEE : Hid (WithEnd r1 → kindRes t l2 = none ∧ False) := Lib.hid (fun h => by have := HWE.out h; subst this; cases hwl)
        rw [hwb]
        clear hwb HPB k6 z6
        go_wp2_with fail
        refine (testSecond_any b Q s _ _ wb hPb.stp (fun t' r h => by
          unfold kindRes at h
          cases hk : readKind l2 with
          | none => rw [hk] at h; cases h
          | some y => rw [hk] at h; cases h; exact HRE.out.2) (by omega) (hGs hPb).1 hb8 hQ8 hbQ).mono ?_
        rintro e wd ⟨rfl, hFd, hstd⟩
        rw [HRE.out.1] at hstd
        have hPd := Lib.hid (hPb.go hFd (hstd.imp HEE.out) hAb hAQ2)
        clear hPb hFd hstd
        go_wp2_with fail
        go_meet
        exact hPd.out
      · have hPa2 := hQ7 hst
        have hd1 := hno t l2 rfl
        simp only [Option.map_some] at hPa2
        clear hst hno hQ7
        have hP8 := hPa2.new ((Fr.refl [] w7).alloc (.cells #[.iface 85 (.string ⟨#[99, 104, 105, 108, 100]⟩)] 128))
        have hSS := Go.Bl.heap_alloc w7 (.cells #[.iface 85 (.string ⟨#[99, 104, 105, 108, 100]⟩)] 128)
        have hlt := hPa2.stp.lt
        obtain ⟨S8, hS⟩ : ∃ S8, w7.heap.size = S8 := ⟨_, rfl⟩
        rw [hS] at hSS hlt
        obtain ⟨wa8, hwa⟩ : ∃ wa8, w7.alloc (.cells #[.iface 85 (.string ⟨#[99, 104, 105, 108, 100]⟩)] 128) = wa8 := ⟨_, rfl⟩
        rw [hwa] at hP8 hSS
        go_wp2_with fail
        (try rw [hwa])
        (try rw [hS])
        refine (perW hP8.stp hSS (by omega) hbQ).mono ?_
        rintro e w8 ⟨v8, rfl, hF8, hcase⟩
        rw [show (ByteArray.data ⟨#[99, 104, 105, 108, 100]⟩).toList = wChild from rfl] at hcase
        have hQ8' : ∀ {E res}, Stp b Q s E res w8 → PSt b Q A s E res w w8 := fun h => hP8.go hF8 h hAb hAQ2
        clear hlt hS hwa hSS hPa2
        rcases hcase with ⟨rfl, t', l', hr, hwl, hst⟩ | ⟨rfl, hno, hst⟩
        · obtain ⟨rfl, rfl⟩ : t = t' ∧ l' = skipL l2 := by cases hr; exact ⟨rfl, rfl⟩
          rw [wordL_skip] at hwl
          rw [skip_skip] at hst
          have hkr : kindRes t l2 = some ({ t with has := 2 }, (skipL l2).drop wChild.length) := by unfold kindRes readKind; rw [if_neg hd1, if_pos hwl]; rfl
          clear hr
          obtain ⟨⟨⟨u1, u2, hq1, _, _⟩, hA1⟩, _⟩ := And.intro hst trivial
          have k6 := cell_of hq1 6
          have z6 := frozen_of hq1 6
          unfold QC at k6
          simp only [List.getElem?_toArray, List.getElem?_cons_zero, List.getElem?_cons_succ] at k6
          have hst2 : Stp b Q s False (kindRes t l2) (w8.setCell ⟨Q, 6, none⟩ (.int .i64 2)) := by
            have := hst.set (o := 6) (x := .int .i64 2) (t' := { t with has := 2 }) hbQ (fun v1 v2 => rfl) ⟨rfl, rfl⟩
            rw [hkr]
            exact this
          have hPb := (hQ8' hst).go ((Fr.refl [b, Q] w8).setCell (p := ⟨Q, 6, none⟩) (.inl (by simp)) (.int .i64 2)) hst2 hAb hAQ2
          have HPB := Lib.hid hPb
          clear hst hst2 hPb hq1 hA1 hQ8'
          go_upto_region 13 with fail
          obtain ⟨wb, hwb⟩ : ∃ wb, w8.setCell ⟨Q, 6, none⟩ (.int .i64 2) = wb := ⟨_, rfl⟩
          have hPb : PSt b Q A s False (kindRes t l2) w wb := by rw [← hwb]; exact HPB.out
          have HEE : Hid (WithEnd r1 → kindRes t l2 = none ∧ False) := Lib.hid (fun h => by have := HWE.out h; subst this; cases hwl)
          rw [hwb]
          clear hwb HPB k6 z6
          go_wp2_with fail
          refine (testSecond_any b Q s _ _ wb hPb.stp (fun t' r h => by
            unfold kindRes at h
            cases hk : readKind l2 with
            | none => rw [hk] at h; cases h
            | some y => rw [hk] at h; cases h; exact HRE.out.2) (by omega) (hGs hPb).1 hb8 hQ8 hbQ).mono ?_
          rintro e wd ⟨rfl, hFd, hstd⟩
          rw [HRE.out.1] at hstd
          have hPd := Lib.hid (hPb.go hFd (hstd.imp HEE.out) hAb hAQ2)
          clear hPb hFd hstd
          go_wp2_with fail
          go_meet
          exact hPd.out
        · have hc1 := hno t (skipL l2) rfl
          rw [wordL_skip] at hc1
          have hkr : kindRes t l2 = none := by unfold kindRes readKind; rw [if_neg hd1, if_neg hc1]; rfl
          simp only [Option.map_some] at hst
          obtain ⟨hq1, hA1⟩ := hst
          have k2 := cell_of hA1.cells 2
          have z2 := frozen_of hA1.cells 2
          simp only [List.getElem?_toArray, List.getElem?_cons_zero, List.getElem?_cons_succ] at k2
          have hst2 : Stp b Q s (skipL (skipL l2) = []) (kindRes t l2) (w8.setCell ⟨b, 2, none⟩ (.bool true)) := by
            have := Stp.bad (Q := Q) (E := False) ⟨hq1, hA1⟩ hbQ
            rw [hkr]
            exact this
          have hPb := (hQ8' (E := False) (res := some (t, skipL (skipL l2))) ⟨hq1, hA1⟩).go ((Fr.refl [b, Q] w8).setCell (p := ⟨b, 2, none⟩) (.inl (by simp)) (.bool true)) hst2 hAb hAQ2
          have HPB := Lib.hid hPb
          clear hst2 hPb hq1 hA1 hQ8'
          go_upto_region 13 with fail
          obtain ⟨wb, hwb⟩ : ∃ wb, w8.setCell ⟨b, 2, none⟩ (.bool true) = wb := ⟨_, rfl⟩
          have hPb : PSt b Q A s (skipL (skipL l2) = []) (kindRes t l2) w wb := by rw [← hwb]; exact HPB.out
          have HEE : Hid (WithEnd r1 → kindRes t l2 = none ∧ skipL (skipL l2) = []) := Lib.hid (fun h => by have := HWE.out h; exact ⟨hkr, by rw [this]; rfl⟩)
          rw [hwb]
          clear hwb HPB k2 z2
          go_wp2_with fail
          refine (testSecond_any b Q s _ _ wb hPb.stp (fun t' r h => by
            unfold kindRes at h
            cases hk : readKind l2 with
            | none => rw [hk] at h; cases h
            | some y => rw [hk] at h; cases h; exact HRE.out.2) (by omega) (hGs hPb).1 hb8 hQ8 hbQ).mono ?_
          rintro e wd ⟨rfl, hFd, hstd⟩
          rw [HRE.out.1] at hstd
          have hPd := Lib.hid (hPb.go hFd (hstd.imp HEE.out) hAb hAQ2)
          clear hPb hFd hstd
          go_wp2_with fail
          go_meet
          exact hPd.out
    · have hPa := hP6 (hst.imp (E' := WithEnd r1) (fun h => by obtain ⟨t, l, h1, h2, _⟩ := h; exact absurd h2 (hno t l h1)))
      rw [← hasRes_not (fun t l h => ⟨(HR1.out.2 t l h).1, (HR1.out.2 t l h).2.1⟩) hno] at hPa
      have HPA := Lib.hid hPa
      clear hP6 hst hno hPa
      go_wp2_with fail
      go_meet
      exact HPA.out
  case rest =>
    clear hcase hP6 hF6
    obtain ⟨wk, rfl⟩ : ∃ wk, wk = wc := ⟨_, rfl⟩
    have hPk := hcut
    have hPl := hPk.new ((Fr.refl [] wk).alloc (.cells #[.iface 85 (.string ⟨#[108, 105, 109, 105, 116]⟩), .iface 92 (.agg #[.pointer (some ⟨Q, 7, none⟩)])] 128))
    have hSS := Go.Bl.heap_alloc wk (.cells #[.iface 85 (.string ⟨#[108, 105, 109, 105, 116]⟩), .iface 92 (.agg #[.pointer (some ⟨Q, 7, none⟩)])] 128)
    have hlt := hPk.stp.lt
    obtain ⟨SL, hS⟩ : ∃ SL, wk.heap.size = SL := ⟨_, rfl⟩
    rw [hS] at hSS hlt
    obtain ⟨wl, hwl⟩ : ∃ wl, wk.alloc (.cells #[.iface 85 (.string ⟨#[108, 105, 109, 105, 116]⟩), .iface 92 (.agg #[.pointer (some ⟨Q, 7, none⟩)])] 128) = wl := ⟨_, rfl⟩
    rw [hwl] at hPl hSS
    have hEl : GE wl ∨ (∀ t r, hasRes r1 = some (t, r) → wordL r = wLimit → ∃ v, Lib.atoiAll (wordL ((skipL r).drop wLimit.length)) = .ok v) := hE.imp (fun h => h.below (hPl.fr.below (B := 8) h8 (by simp; omega)) (Nat.le_refl _)) (fun h => by
      unfold LimOk at h
      rw [HL.out.1, HR1.out.1] at h
      exact h)
    have hcl := step2 (W := ⟨#[108, 105, 109, 105, 116]⟩) (o := 7) putLimit (fun x => .int .i64 x) 0 readCount (fun t v1 v2 x => ⟨rfl, rfl, rfl⟩)
      (fun t r h => by
        have := hasRes_limit h (fun t l h => (HR1.out.2 t l h).2.2)
        cases t
        simp only at this
        subst this
        rfl) hPl.stp
      (fun t v1 v2 l d hQ hA hi => perhapsCount_any ⟨#[108, 105, 109, 105, 116]⟩ b SL Q 7 (QC t v1 v2) _ s l d wl hA (by omega) (hGs hPl).1 (hEl.imp_right (fun h hd hw => h t l (hi hd) hw)) hb8 hQ8 hQ hbQ _ rfl hSS (by omega) (by omega))
    rw [show (ByteArray.data ⟨#[108, 105, 109, 105, 116]⟩).toList = wLimit from rfl] at hcl
    clear hcut hPk hSS hlt
    go_wp2_with fail
    (try rw [hwl])
    (try rw [hS])
    clear hwl hS
    refine hcl.mono ?_
    rintro e wm ⟨⟨vm, rfl⟩, hFm, hstm⟩
    have hPm := hPl.go hFm (hstm.imp (E' := EndAt l) (fun h => by unfold EndAt at h; rw [HR1.out.1] at h; exact h)) hAb hAQ2
    have hend : bindQ (hasRes r1) putLimit (readX wLimit readCount 0) = endRes l := by unfold endRes; rw [HR1.out.1]
    rw [hend] at hPm
    clear hcl hstm hFm hPl hend hEl
    have hpe := HP.out
    rw [readAll_end] at hpe
    obtain ⟨re, hre⟩ : ∃ re, endRes l = re := ⟨_, rfl⟩
    rw [hre] at hPm hpe
    cases re with
    | none =>
      obtain ⟨⟨t, r, hq, hA, hEr⟩, hAn, hFr⟩ := hPm
      have hp2 : parseTP Lib.validD s.data.toList = (zeroT, 131) := hpe
      have HPE := Lib.hid hp2
      clear hp2 hpe
      have k1 := cell_of hA.cells 1
      have k2 := cell_of hA.cells 2
      simp only [List.getElem?_toArray, List.getElem?_cons_zero, List.getElem?_cons_succ] at k1 k2
      have a0 := cell_of hAn 0
      have a1 := cell_of hAn 1
      have a2 := cell_of hAn 2
      have a3 := cell_of hAn 3
      have a4 := cell_of hAn 4
      have a5 := cell_of hAn 5
      have a6 := cell_of hAn 6
      have a7 := cell_of hAn 7
      have z0 := frozen_of hAn 0
      have z1 := frozen_of hAn 1
      have z2 := frozen_of hAn 2
      have z3 := frozen_of hAn 3
      have z4 := frozen_of hAn 4
      have z5 := frozen_of hAn 5
      have z6 := frozen_of hAn 6
      have z7 := frozen_of hAn 7
      unfold zeroTQ at a0 a1 a2 a3 a4 a5 a6 a7
      simp only [List.getElem?_toArray, List.getElem?_cons_zero, List.getElem?_cons_succ] at a0 a1 a2 a3 a4 a5 a6 a7
      go_wp2_with fail
      go_region
      go_wp2_with fail
      have hAz := hAn
      have hFz : Fr [] w wm := hFr.mono (fun i hi => .inr (by have := hAe.out; simp at hi; omega))
      have hEN : EndAt s.data.toList → s.size ≤ 1024 → ((s.size - r.length : Nat) : Int) = (s.size : Int) := fun h _ => by
        have := hEr (by rw [← HL.out.1]; exact h)
        rw [this]
        simp
      obtain ⟨w9, hw9⟩ : ∃ w9, wset8 wm A (.string ⟨#[]⟩) (.int .i64 0) (.slice none 0 0) (.string ⟨#[]⟩) (.int .i64 0) (.slice none 0 0) (.int .i64 0) (.int .i64 0) = w9 := ⟨_, rfl⟩
      have hA9 := set8 (w := wm) hAz rfl (.string ⟨#[]⟩) (.int .i64 0) (.slice none 0 0) (.string ⟨#[]⟩) (.int .i64 0) (.slice none 0 0) (.int .i64 0) (.int .i64 0)
      have hF9 : Fr [] w w9 := by rw [← hw9]; exact set8_fr hFz (Nat.le_of_eq hAe.out) _ _ _ _ _ _ _ _
      rw [hw9] at hA9
      unfold wset8 at hw9
      rw [hw9]
      clear a0 a1 a2 a3 a4 a5 a6 a7 z0 z1 z2 z3 z4 z5 z6 z7 hw9
      have hA10 : w9.drew.heap[A]? = some (.cells zeroTQ 47 (0, 0)) := hA9
      have a0 := cell_of hA10 0
      have a1 := cell_of hA10 1
      have a2 := cell_of hA10 2
      have a3 := cell_of hA10 3
      have a4 := cell_of hA10 4
      have a5 := cell_of hA10 5
      have a6 := cell_of hA10 6
      have a7 := cell_of hA10 7
      unfold zeroTQ at a0 a1 a2 a3 a4 a5 a6 a7
      simp only [List.getElem?_toArray, List.getElem?_cons_zero, List.getElem?_cons_succ] at a0 a1 a2 a3 a4 a5 a6 a7
      refine bodyPost_ret (v := .tuple #[.agg zeroTQ, .int .i64 131, .int .i64 ((s.size - r.length : Nat) : Int)]) ?_ rfl ⟨_, ((s.size - r.length : Nat) : Int), by rw [HPE.out], by rw [HPE.out]; exact zero_TqV _, hF9.drew, hEN⟩
      simp [results, Tryz.results23, go_sem, a0, a1, a2, a3, a4, a5, a6, a7, zeroTQ]
    | some x =>
      obtain ⟨t, r⟩ := x
      obtain ⟨⟨hq, hA⟩, hAn, hFr⟩ := hPm
      have HEX : Hid (¬ EndAt s.data.toList) := Lib.hid (fun h => by
        rw [HL.out.1] at h
        have := h.none
        rw [hre] at this
        cases this)
      have k1 := cell_of hA.cells 1
      have k2 := cell_of hA.cells 2
      simp only [List.getElem?_toArray, List.getElem?_cons_zero, List.getElem?_cons_succ] at k1 k2
      go_wp2_with fail
      refine (word_any b s r false _ hA).mono ?_
      rintro e wn ⟨rfl, hAr, hFn⟩
      have hkeep : QAt wn Q t := by
        obtain ⟨v1, v2, h1, h2, h3⟩ := hq
        exact ⟨v1, v2, hFn.obj h1 (by simpa using hbQ.symm), mts_keep hA h1 h2 h3 (fr2 hFn) h2, mts_keep hA h1 h2 h3 (fr2 hFn) h3⟩
      have hAn2 := hFn.obj hAn (by simpa using hAb)
      have hFr2 := hFr.trans (fr2 hFn)
      clear hq hA hAn hFr hFn k1 k2
      obtain ⟨m, hm⟩ : ∃ m, skipL r = m := ⟨_, rfl⟩
      rw [hm] at hAr
      have hpe2 : parseTP Lib.validD s.data.toList = if m = [] then (if rightT Lib.validD t ≠ 0 then (zeroT, rightT Lib.validD t) else (t, 0)) else (zeroT, 131) := by
        rw [hpe]
        (try simp only)
        rw [hm]
        by_cases h : m = [] <;> simp [h]
      have HPE := Lib.hid hpe2
      clear hpe hpe2 hm
      have k1 := cell_of hAr.cells 1
      have k2 := cell_of hAr.cells 2
      have k0 := cell_of hAr.cells 0
      have y2 := frozen_of hAr.cells 2
      simp only [List.getElem?_toArray, List.getElem?_cons_zero, List.getElem?_cons_succ] at k0 k1 k2
      by_cases hm : m = []
      case neg =>
        obtain ⟨c, m', rfl⟩ : ∃ c m', m = c :: m' := by
          cases m with
          | nil => exact absurd rfl hm
          | cons c m' => exact ⟨c, m', rfl⟩
        obtain ⟨p, hp1, hp2, hp3, hp4⟩ := hAr.at
        rw [show s.size - (c :: m').length = p from hp1] at k1
        have hlt : decide ((p : Int) < (s.size : Int)) = true := by simp; omega
        have hp3b : (p : Int) < (s.size : Int) := by omega
        have HPF := Lib.hid (show parseTP Lib.validD s.data.toList = (zeroT, 131) by rw [HPE.out, if_neg (by simp)])
        go_upto_region 18 with fail
        have hArq := hAr.flag true
        have hAnq : (wn.setCell ⟨b, 2, none⟩ (.bool true)).heap[A]? = some (.cells zeroTQ 47 (0, 0)) := by rw [heap_setCell_ne hAb]; exact hAn2
        have hFrq : Fr [b, Q] w (wn.setCell ⟨b, 2, none⟩ (.bool true)) := hFr2.setCell (.inl (by simp)) _
        obtain ⟨wq, hwq⟩ : ∃ wq, wn.setCell ⟨b, 2, none⟩ (.bool true) = wq := ⟨_, rfl⟩
        rw [hwq] at hArq hAnq hFrq ⊢
        clear hwq k0 k1 k2 y2 hAn2 hFr2 hAr hkeep hlt hp3b
        have k1 := cell_of hArq.cells 1
        have k2 := cell_of hArq.cells 2
        simp only [List.getElem?_toArray, List.getElem?_cons_zero, List.getElem?_cons_succ] at k1 k2
        have a0 := cell_of hAnq 0
        have a1 := cell_of hAnq 1
        have a2 := cell_of hAnq 2
        have a3 := cell_of hAnq 3
        have a4 := cell_of hAnq 4
        have a5 := cell_of hAnq 5
        have a6 := cell_of hAnq 6
        have a7 := cell_of hAnq 7
        have z0 := frozen_of hAnq 0
        have z1 := frozen_of hAnq 1
        have z2 := frozen_of hAnq 2
        have z3 := frozen_of hAnq 3
        have z4 := frozen_of hAnq 4
        have z5 := frozen_of hAnq 5
        have z6 := frozen_of hAnq 6
        have z7 := frozen_of hAnq 7
        unfold zeroTQ at a0 a1 a2 a3 a4 a5 a6 a7
        simp only [List.getElem?_toArray, List.getElem?_cons_zero, List.getElem?_cons_succ] at a0 a1 a2 a3 a4 a5 a6 a7
        go_wp2_with fail
        go_region
        go_wp2_with fail
        have hAz := hAnq
        have hFz : Fr [] w wq := hFrq.mono (fun i hi => .inr (by have := hAe.out; simp at hi; omega))
        have hEN : EndAt s.data.toList → s.size ≤ 1024 → ((s.size - (c :: m').length : Nat) : Int) = (s.size : Int) := fun h _ => absurd h HEX.out
        obtain ⟨w9, hw9⟩ : ∃ w9, wset8 wq A (.string ⟨#[]⟩) (.int .i64 0) (.slice none 0 0) (.string ⟨#[]⟩) (.int .i64 0) (.slice none 0 0) (.int .i64 0) (.int .i64 0) = w9 := ⟨_, rfl⟩
        have hA9 := set8 (w := wq) hAz rfl (.string ⟨#[]⟩) (.int .i64 0) (.slice none 0 0) (.string ⟨#[]⟩) (.int .i64 0) (.slice none 0 0) (.int .i64 0) (.int .i64 0)
        have hF9 : Fr [] w w9 := by rw [← hw9]; exact set8_fr hFz (Nat.le_of_eq hAe.out) _ _ _ _ _ _ _ _
        rw [hw9] at hA9
        unfold wset8 at hw9
        rw [hw9]
        clear a0 a1 a2 a3 a4 a5 a6 a7 z0 z1 z2 z3 z4 z5 z6 z7 hw9
        have hA10 : w9.drew.heap[A]? = some (.cells zeroTQ 47 (0, 0)) := hA9
        have a0 := cell_of hA10 0
        have a1 := cell_of hA10 1
        have a2 := cell_of hA10 2
        have a3 := cell_of hA10 3
        have a4 := cell_of hA10 4
        have a5 := cell_of hA10 5
        have a6 := cell_of hA10 6
        have a7 := cell_of hA10 7
        unfold zeroTQ at a0 a1 a2 a3 a4 a5 a6 a7
        simp only [List.getElem?_toArray, List.getElem?_cons_zero, List.getElem?_cons_succ] at a0 a1 a2 a3 a4 a5 a6 a7
        refine bodyPost_ret (v := .tuple #[.agg zeroTQ, .int .i64 131, .int .i64 ((s.size - (c :: m').length : Nat) : Int)]) ?_ rfl ⟨_, ((s.size - (c :: m').length : Nat) : Int), by rw [HPF.out], by rw [HPF.out]; exact zero_TqV _, hF9.drew, hEN⟩
        simp [results, Tryz.results23, go_sem, a0, a1, a2, a3, a4, a5, a6, a7, zeroTQ]
      case pos =>
        subst hm
        have hlt : decide (((s.size - ([] : Bs).length : Nat) : Int) < (s.size : Int)) = false := by simp
        have HPF := Lib.hid (show parseTP Lib.validD s.data.toList = (if rightT Lib.validD t ≠ 0 then (zeroT, rightT Lib.validD t) else (t, 0)) by rw [HPE.out, if_pos rfl])
        go_upto_region 18 with fail
        have hArq := hAr.flag false
        have hAnq : (wn.setCell ⟨b, 2, none⟩ (.bool false)).heap[A]? = some (.cells zeroTQ 47 (0, 0)) := by rw [heap_setCell_ne hAb]; exact hAn2
        have hFrq : Fr [b, Q] w (wn.setCell ⟨b, 2, none⟩ (.bool false)) := hFr2.setCell (.inl (by simp)) _
        have hFq1 : Fr [b, Q] wn (wn.setCell ⟨b, 2, none⟩ (.bool false)) := (Fr.refl _ _).setCell (.inl (by simp)) _
        obtain ⟨v1, v2, hq1, hq2, hq3⟩ := hkeep
        have hq2' := mts_keep hAr hq1 hq2 hq3 hFq1 hq2
        have hq3' := mts_keep hAr hq1 hq2 hq3 hFq1 hq3
        have hqq : (wn.setCell ⟨b, 2, none⟩ (.bool false)).heap[Q]? = some (.cells (QC t v1 v2) 47 (0, 0)) := by rw [heap_setCell_ne hbQ.symm]; exact hq1
        obtain ⟨wq, hwq⟩ : ∃ wq, wn.setCell ⟨b, 2, none⟩ (.bool false) = wq := ⟨_, rfl⟩
        rw [hwq] at hArq hAnq hFrq hq2' hq3' hqq ⊢
        clear hwq k0 k1 k2 y2 hAn2 hFr2 hAr hlt hq1 hq2 hq3 hFq1
        obtain ⟨A1, L1, C1, rfl⟩ : ∃ A L C, v1 = .slice A L C := by obtain ⟨A, c, e, _⟩ := hq2'; exact ⟨A, _, c, e⟩
        obtain ⟨A2, L2, C2, rfl⟩ : ∃ A L C, v2 = .slice A L C := by obtain ⟨A, c, e, _⟩ := hq3'; exact ⟨A, _, c, e⟩
        have k2 := cell_of hArq.cells 2
        simp only [List.getElem?_toArray, List.getElem?_cons_zero, List.getElem?_cons_succ] at k2
        have q0 := cell_of hqq 0
        have q1 := cell_of hqq 1
        have q2 := cell_of hqq 2
        have q3 := cell_of hqq 3
        have q4 := cell_of hqq 4
        have q5 := cell_of hqq 5
        have q6 := cell_of hqq 6
        have q7 := cell_of hqq 7
        unfold QC at q0 q1 q2 q3 q4 q5 q6 q7
        simp only [List.getElem?_toArray, List.getElem?_cons_zero, List.getElem?_cons_succ] at q0 q1 q2 q3 q4 q5 q6 q7
        have hFz : Fr [] w wq := hFrq.mono (fun i hi => .inr (by have := hAe.out; simp at hi; omega))
        go_wp2_with fail
        refine (rightT_any t _ wq (hG.frn hFz h8) (Nat.le_trans h8 hFz.size) ⟨_, _, rfl, hq2', hq3'⟩).mono ?_
        rintro e wr ⟨rfl, hFr⟩
        obtain ⟨n, hn⟩ : ∃ n, rightT Lib.validD t = n := ⟨_, rfl⟩
        rw [hn]
        have HN := Lib.hid hn
        clear hn q0 q1 q2 q3 q4 q5 q6 q7 k2
        have hAr9 := hFr.obj hAnq (by simp)
        have hqr := hFr.obj hqq (by simp)
        have hFzr := hFz.trans hFr
        have HM := Lib.hid (And.intro (hq2'.fr hFr) (hq3'.fr hFr))
        clear hAnq hqq hFrq hArq hq2' hq3' hFz hFr
        by_cases h0 : n = 0
        · subst h0
          have HPG := Lib.hid (show parseTP Lib.validD s.data.toList = (t, 0) by rw [HPF.out, if_neg (by rw [HN.out]; simp)])
          have q0 := cell_of hqr 0
          have q1 := cell_of hqr 1
          have q2 := cell_of hqr 2
          have q3 := cell_of hqr 3
          have q4 := cell_of hqr 4
          have q5 := cell_of hqr 5
          have q6 := cell_of hqr 6
          have q7 := cell_of hqr 7
          unfold QC at q0 q1 q2 q3 q4 q5 q6 q7
          simp only [List.getElem?_toArray, List.getElem?_cons_zero, List.getElem?_cons_succ] at q0 q1 q2 q3 q4 q5 q6 q7
          have a0 := cell_of hAr9 0
          have a1 := cell_of hAr9 1
          have a2 := cell_of hAr9 2
          have a3 := cell_of hAr9 3
          have a4 := cell_of hAr9 4
          have a5 := cell_of hAr9 5
          have a6 := cell_of hAr9 6
          have a7 := cell_of hAr9 7
          have z0 := frozen_of hAr9 0
          have z1 := frozen_of hAr9 1
          have z2 := frozen_of hAr9 2
          have z3 := frozen_of hAr9 3
          have z4 := frozen_of hAr9 4
          have z5 := frozen_of hAr9 5
          have z6 := frozen_of hAr9 6
          have z7 := frozen_of hAr9 7
          unfold zeroTQ at a0 a1 a2 a3 a4 a5 a6 a7
          simp only [List.getElem?_toArray, List.getElem?_cons_zero, List.getElem?_cons_succ] at a0 a1 a2 a3 a4 a5 a6 a7
          go_wp2_with fail
          obtain ⟨w9, hw9⟩ : ∃ w9, wset8 wr A (.string ⟨t.first.name.toArray⟩) (.int .i64 t.first.least) (.slice A1 L1 C1) (.string ⟨t.second.name.toArray⟩) (.int .i64 t.second.least) (.slice A2 L2 C2) (.int .i64 t.has) (.int .i64 t.limit) = w9 := ⟨_, rfl⟩
          have hA9 := set8 (w := wr) hAr9 rfl (.string ⟨t.first.name.toArray⟩) (.int .i64 t.first.least) (.slice A1 L1 C1) (.string ⟨t.second.name.toArray⟩) (.int .i64 t.second.least) (.slice A2 L2 C2) (.int .i64 t.has) (.int .i64 t.limit)
          have hF9 : Fr [] w w9 := by rw [← hw9]; exact set8_fr hFzr (Nat.le_of_eq hAe.out) _ _ _ _ _ _ _ _
          have hFA : Fr [A] wr w9 := by rw [← hw9]; exact set8_frA _ _ _ _ _ _ _ _ _ _
          rw [hw9] at hA9
          unfold wset8 at hw9
          rw [hw9]
          clear a0 a1 a2 a3 a4 a5 a6 a7 z0 z1 z2 z3 z4 z5 z6 z7 q0 q1 q2 q3 q4 q5 q6 q7 hw9
          have hkA : ∀ {v ms}, Mts wr v ms → Mts w9 v ms := fun h => h.keepS hFA (fun k hk => by
            simp at hk
            subst hk
            exact ⟨_, _, _, hAr9, NoMt.zero⟩)
          have a0 := cell_of hA9 0
          have a1 := cell_of hA9 1
          have a2 := cell_of hA9 2
          have a3 := cell_of hA9 3
          have a4 := cell_of hA9 4
          have a5 := cell_of hA9 5
          have a6 := cell_of hA9 6
          have a7 := cell_of hA9 7
          simp only [List.getElem?_toArray, List.getElem?_cons_zero, List.getElem?_cons_succ] at a0 a1 a2 a3 a4 a5 a6 a7
          refine bodyPost_ret (v := .tuple #[.agg (QC t (.slice A1 L1 C1) (.slice A2 L2 C2)), .int .i64 0, .int .i64 0]) ?_ rfl ⟨_, _, by rw [HPG.out], by rw [HPG.out]; exact ⟨_, _, rfl, hkA HM.out.1, hkA HM.out.2⟩, hF9, fun h _ => absurd h HEX.out⟩
          simp [results, Tryz.results23, go_sem, a0, a1, a2, a3, a4, a5, a6, a7, QC]
        · have h1 : (n != 0) = true := by simpa using h0
          have HPG := Lib.hid (show parseTP Lib.validD s.data.toList = (zeroT, n) by rw [HPF.out, if_pos (by rw [HN.out]; exact h0), HN.out])
          clear h0
          have a0 := cell_of hAr9 0
          have a1 := cell_of hAr9 1
          have a2 := cell_of hAr9 2
          have a3 := cell_of hAr9 3
          have a4 := cell_of hAr9 4
          have a5 := cell_of hAr9 5
          have a6 := cell_of hAr9 6
          have a7 := cell_of hAr9 7
          have z0 := frozen_of hAr9 0
          have z1 := frozen_of hAr9 1
          have z2 := frozen_of hAr9 2
          have z3 := frozen_of hAr9 3
          have z4 := frozen_of hAr9 4
          have z5 := frozen_of hAr9 5
          have z6 := frozen_of hAr9 6
          have z7 := frozen_of hAr9 7
          unfold zeroTQ at a0 a1 a2 a3 a4 a5 a6 a7
          simp only [List.getElem?_toArray, List.getElem?_cons_zero, List.getElem?_cons_succ] at a0 a1 a2 a3 a4 a5 a6 a7
          go_wp2_with fail
          have hAz := hAr9
          have hEN : EndAt s.data.toList → s.size ≤ 1024 → (0 : Int) = (s.size : Int) := fun h _ => absurd h HEX.out
          obtain ⟨w9, hw9⟩ : ∃ w9, wset8 wr A (.string ⟨#[]⟩) (.int .i64 0) (.slice none 0 0) (.string ⟨#[]⟩) (.int .i64 0) (.slice none 0 0) (.int .i64 0) (.int .i64 0) = w9 := ⟨_, rfl⟩
          have hA9 := set8 (w := wr) hAz rfl (.string ⟨#[]⟩) (.int .i64 0) (.slice none 0 0) (.string ⟨#[]⟩) (.int .i64 0) (.slice none 0 0) (.int .i64 0) (.int .i64 0)
          have hF9 : Fr [] w w9 := by rw [← hw9]; exact set8_fr hFzr (Nat.le_of_eq hAe.out) _ _ _ _ _ _ _ _
          rw [hw9] at hA9
          unfold wset8 at hw9
          rw [hw9]
          clear a0 a1 a2 a3 a4 a5 a6 a7 z0 z1 z2 z3 z4 z5 z6 z7 hw9
          have hA10 : w9.heap[A]? = some (.cells zeroTQ 47 (0, 0)) := hA9
          have a0 := cell_of hA10 0
          have a1 := cell_of hA10 1
          have a2 := cell_of hA10 2
          have a3 := cell_of hA10 3
          have a4 := cell_of hA10 4
          have a5 := cell_of hA10 5
          have a6 := cell_of hA10 6
          have a7 := cell_of hA10 7
          unfold zeroTQ at a0 a1 a2 a3 a4 a5 a6 a7
          simp only [List.getElem?_toArray, List.getElem?_cons_zero, List.getElem?_cons_succ] at a0 a1 a2 a3 a4 a5 a6 a7
          refine bodyPost_ret (v := .tuple #[.agg zeroTQ, .int .i64 n, .int .i64 0]) ?_ rfl ⟨_, 0, by rw [HPG.out], by rw [HPG.out]; exact zero_TqV _, hF9, hEN⟩
          simp [results, Tryz.results23, go_sem, a0, a1, a2, a3, a4, a5, a6, a7, zeroTQ]
end Go.Proofs.YtdhmloejgoacaaaGreatDoor
