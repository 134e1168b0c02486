/- A step behind its bar: a test with a key, a level, a limit. -/
import Derived.Test.YtaniaknphjnlkaaGreatDoorLqQuo
import Derived.Test.YtaniaknphjnlkaaGreatDoorLqRQC
import Derived.Test.YtaniaknphjnlkaaGreatDoorLqNum
import Derived.Deep.RegionHeld3
import Derived.Deep.DeepCutAuto
namespace Go.Proofs.YtaniaknphjnlkaaGreatDoor
open Go.RowKit Go.Bl Go.Lq

theorem RQ.level {B b : Nat} {s : ByteArray} {l : Bs} {q : Qy} {c2 c4 : Value} {w : World} (h : RQ B b s l q c2 c4 w) (n : Int) : RQ B b s l { q with level := n } c2 c4 (w.setCell ⟨b, 3, none⟩ (.int .i64 n)) :=
  have hF : Fr [b] w (w.setCell ⟨b, 3, none⟩ (.int .i64 n)) := (Fr.refl _ _).setCell1 3 _
  ⟨⟨heap_setCell h.rd.cells 3 _, h.rd.suf, h.rd.short⟩, row_fr h.mrow hF (fun k hk => by simp only [List.mem_singleton]; rintro rfl; exact h.ne2 hk), row_fr h.trow hF (fun k hk => by simp only [List.mem_singleton]; rintro rfl; exact h.ne4 hk), h.ne2, h.ne4, h.ne24, h.base, h.few⟩
theorem RQ.limit {B b : Nat} {s : ByteArray} {l : Bs} {q : Qy} {c2 c4 : Value} {w : World} (h : RQ B b s l q c2 c4 w) (n : Int) : RQ B b s l { q with limit := n } c2 c4 (w.setCell ⟨b, 5, none⟩ (.int .i64 n)) :=
  have hF : Fr [b] w (w.setCell ⟨b, 5, none⟩ (.int .i64 n)) := (Fr.refl _ _).setCell1 5 _
  ⟨⟨heap_setCell h.rd.cells 5 _, h.rd.suf, h.rd.short⟩, row_fr h.mrow hF (fun k hk => by simp only [List.mem_singleton]; rintro rfl; exact h.ne2 hk), row_fr h.trow hF (fun k hk => by simp only [List.mem_singleton]; rintro rfl; exact h.ne4 hk), h.ne2, h.ne4, h.ne24, h.base, h.few⟩
theorem numberL_len {most : Int} {l r : Bs} {n : Int} (h : numberL most l = .ok n r) : r.length ≤ l.length := by
  unfold numberL at h
  dsimp only at h
  split at h
  · cases h
  · cases h
    have := (List.dropWhile_suffix isDigit (l := skipL l)).length_le
    have := skipL_le l
    omega
theorem RQ.number {B b : Nat} {s : ByteArray} {l : Bs} {q : Qy} {c2 c4 : Value} {w : World} (h : RQ B b s l q c2 c4 w) (hG : GV w) (hB : 8 ≤ B) (most : Int) (hm : most ≤ 1000) : Calls Tryz.prog 44 #[.pointer (some ⟨b, 0, none⟩), .int .i64 most] w (RQ.After B b s q c2 c4 (numberL most l) (fun n => .int .i64 n) w) :=
  (number_any h.rd hG (Nat.le_trans hB h.base) most hm).mono fun _ _ hx => h.after (fun _ _ e => numberL_len e) hx

set_option maxRecDepth 100000 in
set_option maxHeartbeats 4000000 in
theorem keyed_any {B b : Nat} {s : ByteArray} {l : Bs} {q : Qy} {c2 c4 : Value} {w : World} (h : RQ B b s l q c2 c4 w) (hG : GV w) (h8 : 8 ≤ B) :
    Calls Tryz.prog 23 #[.pointer (some ⟨b, 0, none⟩)] w (StepPost B b s c2 c4 (keyedL q l) w) := by
  obtain ⟨pr, hf⟩ : ∃ pr, keyedL q l = pr := ⟨_, rfl⟩
  rw [hf]
  go_enter Tryz.func23, Tryz.ntmps23
  go_wp2_with fail
  refine h.byteF.mono ?_
  rintro e w1 ⟨rfl, h1, F1⟩
  unfold keyedL at hf
  dsimp only at hf
  obtain ⟨m, hm⟩ : ∃ m, skipL l = m := ⟨_, rfl⟩
  rw [hm] at h1 hf
  have hG1 := hG.below (h.bel1 F1) h8
  obtain ⟨pk, hpk⟩ : ∃ pk, keyL m = pk := ⟨_, rfl⟩
  have hK := h1.key
  rw [hpk] at hf hK
  have k1 := cell_of h1.rd.cells 1
  simp only [List.getElem?_toArray, List.getElem?_cons_zero, List.getElem?_cons_succ] at k1
  have hH1 := Lib.hid h1
  clear h h1
  go_wp2_with fail
  refine hK.mono ?_
  rintro e w6 ⟨F6, B6, h6⟩
  have F16 := F1.trans F6
  have hG6 := hG1.below B6 h8
  cases pk with
  | bad r =>
    obtain rfl := h6
    go_wp2_with fail
    rw [← hf]
    exact ⟨rfl, fr_own F16 _, rfl⟩
  | ok k l1 =>
  obtain ⟨rfl, h6⟩ := h6
  have hlk := (keyL_len hpk).1
  dsimp only at hf
  obtain ⟨po, hpo⟩ : ∃ po, opL l1 = po := ⟨_, rfl⟩
  have hO := h6.op
  rw [hpo] at hf hO
  go_wp2_with fail
  refine hO.mono ?_
  rintro e w7 ⟨F7, B7, h7⟩
  have F17 := F16.trans F7
  have hG7 := hG6.below B7 h8
  clear F7 F6 B7 B6
  cases po with
  | bad r =>
    obtain rfl := h7
    go_wp2_with fail
    rw [← hf]
    exact ⟨rfl, fr_own F17 _, rfl⟩
  | ok n l2 =>
  obtain ⟨rfl, h7⟩ := h7
  have hlo := opL_len hpo
  dsimp only at hf
  clear hpk hpo hK hO h6
  by_cases hn : n = 0
  · subst hn
    rw [if_neg (by simp)] at hf
    have j1 := cell_of h7.rd.cells 1
    have j3 := cell_of h7.rd.cells 3
    have j5 := cell_of h7.rd.cells 5
    have z1 := frozen_of h7.rd.cells 1
    simp only [List.getElem?_toArray, List.getElem?_cons_zero, List.getElem?_cons_succ] at j1 j3 j5
    have hback : Rd (w7.setCell ⟨b, 1, none⟩ (.int .i64 ((s.size - m.length : Nat) : Int))) b s m c2 (.int .i64 q.level) c4 (.int .i64 q.limit) := ⟨heap_setCell h7.rd.cells 1 _, hH1.out.rd.suf, hH1.out.rd.short⟩
    have Fback : Fr [b] w (w7.setCell ⟨b, 1, none⟩ (.int .i64 ((s.size - m.length : Nat) : Int))) := F17.setCell1 1 _
    by_cases h1 : k = wLevel
    · have q1 : (ByteArray.mk k.toArray) = ⟨#[108, 101, 118, 101, 108]⟩ := by rw [h1]; rfl
      rw [if_pos h1] at hf
      by_cases hlv : q.level = 0
      · rw [if_neg (by simpa using hlv)] at hf
        have hN := h7.number hG7 h8 24 (by omega)
        obtain ⟨pn, hpn⟩ : ∃ pn, numberL 24 l2 = pn := ⟨_, rfl⟩
        rw [hpn] at hf hN
        rw [q1]
        go_wp2_with fail
        refine hN.mono ?_
        rintro e w9 ⟨F9, B9, h9⟩
        cases pn with
        | bad r =>
          obtain rfl := h9
          go_wp2_with fail
          rw [← hf]
          exact ⟨rfl, fr_own (F17.trans F9) _, rfl⟩
        | ok n r =>
          obtain ⟨rfl, h9⟩ := h9
          have y3 := cell_of h9.rd.cells 3
          have x3 := frozen_of h9.rd.cells 3
          simp only [List.getElem?_toArray, List.getElem?_cons_zero, List.getElem?_cons_succ] at y3
          go_wp2_with fail
          rw [← hf]
          exact ⟨rfl, .tuple #[], by simp [results, Tryz.results23, go_sem], fr_own ((F17.trans F9).setCell1 3 _) _, rfl, _, h9.level n, fun k hk => .inl hk⟩
      · rw [if_pos hlv] at hf
        rw [q1]
        go_wp2_with fail
        refine (bad_any b s m _ _ _ _ _ hback).mono ?_
        rintro e w9 ⟨rfl, rfl⟩
        go_wp2_with fail
        rw [← hf]
        exact ⟨rfl, fr_own Fback _, rfl⟩
    · rw [if_neg h1] at hf
      have q1 : (k == [108, 101, 118, 101, 108]) = false := beq_eq_false_iff_ne.2 h1
      by_cases h2 : k = wLimit
      · have q2 : (ByteArray.mk k.toArray) = ⟨#[108, 105, 109, 105, 116]⟩ := by rw [h2]; rfl
        rw [if_pos h2] at hf
        by_cases hlv : q.limit = 0
        · rw [if_neg (by simpa using hlv)] at hf
          have hN := h7.number hG7 h8 1000 (by omega)
          obtain ⟨pn, hpn⟩ : ∃ pn, numberL 1000 l2 = pn := ⟨_, rfl⟩
          rw [hpn] at hf hN
          rw [q2]
          go_wp2_with fail
          refine hN.mono ?_
          rintro e w9 ⟨F9, B9, h9⟩
          cases pn with
          | bad r =>
            obtain rfl := h9
            go_wp2_with fail
            rw [← hf]
            exact ⟨rfl, fr_own (F17.trans F9) _, rfl⟩
          | ok n r =>
            obtain ⟨rfl, h9⟩ := h9
            have y3 := cell_of h9.rd.cells 5
            have x3 := frozen_of h9.rd.cells 5
            simp only [List.getElem?_toArray, List.getElem?_cons_zero, List.getElem?_cons_succ] at y3
            go_wp2_with fail
            rw [← hf]
            exact ⟨rfl, .tuple #[], by simp [results, Tryz.results23, go_sem], fr_own ((F17.trans F9).setCell1 5 _) _, rfl, _, h9.limit n, fun k hk => .inl hk⟩
        · rw [if_pos hlv] at hf
          rw [q2]
          go_wp2_with fail
          refine (bad_any b s m _ _ _ _ _ hback).mono ?_
          rintro e w9 ⟨rfl, rfl⟩
          go_wp2_with fail
          rw [← hf]
          exact ⟨rfl, fr_own Fback _, rfl⟩
      · rw [if_neg h2] at hf
        have q2 : (k == [108, 105, 109, 105, 116]) = false := beq_eq_false_iff_ne.2 h2
        go_wp2_with fail
        refine h7.badF.mono ?_
        rintro e w9 ⟨rfl, F9⟩
        go_wp2_with fail
        rw [← hf]
        exact ⟨rfl, fr_own (F17.trans F9) _, rfl⟩
  · rw [if_pos hn] at hf
    have hn2 : (n == 0) = false := by simpa using hn
    have hQ := quoted_any b s l2 c2 (.int .i64 q.level) c4 (.int .i64 q.limit)
    obtain ⟨pq, hpq⟩ : ∃ pq, quotedL l2 = pq := ⟨_, rfl⟩
    rw [hpq] at hf hQ
    obtain ⟨c3, hc3⟩ : ∃ c3 : Value, .int .i64 q.level = c3 := ⟨_, rfl⟩
    obtain ⟨c5, hc5⟩ : ∃ c5 : Value, .int .i64 q.limit = c5 := ⟨_, rfl⟩
    have hR := h7.rd
    have hrow := h7.trow
    have hne := h7.ne4
    have hlen : q.tests.length ≤ 1024 := by have := h7.few; have := hR.short; (try simp only at *); omega
    have hBb : B ≤ w7.heap.size := by have := lt_of_obj hR.cells; have := h7.base; omega
    simp only [hc3, hc5] at hR
    have k4 := cell_of hR.cells 4
    simp only [List.getElem?_toArray, List.getElem?_cons_zero, List.getElem?_cons_succ] at k4
    have hnb : b ∉ c4.ownBlock.toList := by rw [Option.mem_toList]; exact hne
    obtain ⟨i0, hi0, hz0, hz1, hz2⟩ := info_parts infoMt
    rw [hc3, hc5] at hQ
    have HH := Lib.hid h7
    clear h7
    cases pq with
    | bad r =>
      go_wp2_with fail
      refine wp_region_held_drew (S := fun w' => w'.cell? ⟨b, 4, none⟩ = some c4 ∧ Fr [b] w7 w') (by kernel_rfl) ⟨k4, (Fr.refl _ _).drew⟩ (fun hHeld => ?_)
      refine wpAnyH_take (i := 0) (oi := _) (v := ?_) rfl (by kernel_rfl) (by kernel_rfl) (by kernel_rfl) (fun _ _ _ h => h) (Or.inl ⟨by rfl, ?_⟩) (by assumption) ?_
      rotate_left
      · intro w hSw
        (try dsimp only at hSw)
        go_simp
        all_goals (with_reducible rfl)
      (try simp only [Act.put, List.setIfInBounds_toArray, List.set_cons_zero, List.set_cons_succ])
      refine wpAnyH_take (i := 1) (oi := _) (v := ?_) rfl (by kernel_rfl) (by kernel_rfl) (by kernel_rfl) (fun _ _ _ h => h) (Or.inl ⟨by rfl, ?_⟩) (by assumption) ?_
      rotate_left
      · intro w hSw
        (try dsimp only at hSw)
        go_simp
        all_goals (with_reducible rfl)
      (try simp only [Act.put, List.setIfInBounds_toArray, List.set_cons_zero, List.set_cons_succ])
      refine wpAnyH_take (i := 2) (oi := _) (v := ?_) rfl (by kernel_rfl) (by kernel_rfl) (by kernel_rfl) (fun _ _ _ h => h) (Or.inl ⟨by rfl, ?_⟩) (by assumption) ?_
      rotate_left
      · intro w hSw
        (try dsimp only at hSw)
        go_simp
        all_goals (with_reducible rfl)
      (try simp only [Act.put, List.setIfInBounds_toArray, List.set_cons_zero, List.set_cons_succ])
      refine wpAnyH_take (i := 3) (oi := _) (v := ?_) rfl (by kernel_rfl) (by kernel_rfl) (by kernel_rfl) (fun _ _ _ h => h) (Or.inl ⟨by rfl, ?_⟩) (by assumption) ?_
      rotate_left
      · intro w hSw
        (try dsimp only at hSw)
        go_simp
        all_goals (with_reducible rfl)
      (try simp only [Act.put, List.setIfInBounds_toArray, List.set_cons_zero, List.set_cons_succ])
      refine wpAnyH_take (i := 4) (oi := _) (v := ?_) rfl (by kernel_rfl) (by kernel_rfl) (by kernel_rfl) (fun _ _ _ h => h) (Or.inl ⟨by rfl, ?_⟩) (by assumption) ?_
      rotate_left
      · intro w hSw
        (try dsimp only at hSw)
        go_simp
        all_goals (with_reducible rfl)
      (try simp only [Act.put, List.setIfInBounds_toArray, List.set_cons_zero, List.set_cons_succ])
      refine wpAnyH_take (i := 5) (oi := _) (v := ?_) rfl (by kernel_rfl) (by kernel_rfl) (by kernel_rfl) (fun _ _ _ h => h) (Or.inl ⟨by rfl, ?_⟩) (by assumption) ?_
      rotate_left
      · intro w hSw
        (try dsimp only at hSw)
        go_simp
        all_goals (with_reducible rfl)
      (try simp only [Act.put, List.setIfInBounds_toArray, List.set_cons_zero, List.set_cons_succ])
      refine wpAnyH_take (i := 6) (oi := _) (v := ?_) rfl (by kernel_rfl) (by kernel_rfl) (by kernel_rfl) (fun _ _ _ h => h) (Or.inl ⟨by rfl, ?_⟩) (by assumption) ?_
      rotate_left
      · intro w hSw
        (try dsimp only at hSw)
        go_simp
        all_goals (with_reducible rfl)
      (try simp only [Act.put, List.setIfInBounds_toArray, List.set_cons_zero, List.set_cons_succ])
      refine wpAnyH_take (i := 7) (oi := _) (v := ?_) rfl (by kernel_rfl) (by kernel_rfl) (by kernel_rfl) (fun _ _ _ h => h) (Or.inl ⟨by rfl, ?_⟩) (by assumption) ?_
      rotate_left
      · intro w hSw
        (try dsimp only at hSw)
        go_simp
        all_goals (with_reducible rfl)
      (try simp only [Act.put, List.setIfInBounds_toArray, List.set_cons_zero, List.set_cons_succ])
      refine wpAnyH_take (i := 8) (oi := _) (v := ?_) rfl (by kernel_rfl) (by kernel_rfl) (by kernel_rfl) (fun _ _ _ h => h) (Or.inl ⟨by rfl, ?_⟩) (by assumption) ?_
      rotate_left
      · intro w hSw
        (try dsimp only at hSw)
        go_simp
        all_goals (with_reducible rfl)
      (try simp only [Act.put, List.setIfInBounds_toArray, List.set_cons_zero, List.set_cons_succ])
      refine wpAnyH_ready (rs := [9]) (by kernel_rfl) (by simp) ?_
      refine AllReadyH.cons (o := _) rfl (fun K hK => ?_) ?_
      · go_simp
        refine (hQ w7.drew ⟨hR.cells, hR.suf, hR.short⟩).mono ?_
        rintro e w8 ⟨hF1, rfl⟩
        subst hf
        exact ⟨rfl, fr_own (F17.trans hF1.of_drew) _, rfl⟩
      · exact AllReadyH.nil
    | ok v l3 =>
      have hlr := quotedL_len hpq
      go_wp2_with fail
      go_region_law (first | (refine step_append_lies _ rfl (.tmp 24) (.tmp 30) 22 rfl B 56 i0 _ 3 _ Tryz.underlying22 hi0 hz0 hz1 hz2 rfl (by omega) c4 q.tests.length (mtCells q.tests) (by simp [Act.eval]) (HO.out.alloc _) ⟨w1.heap.size, 0, none⟩ 1 1 [.int .i64 n, .string ⟨k.toArray⟩, .string ⟨v.toArray⟩] (by simp [Act.eval]) rfl (news3 w1 _ _ _ _) (by simp [Value.oneCell']) (by omega) (by unfold maxLen; omega) (by omega) (by simp; omega) (w1.heap.size + 1) (by simp) ?_; intro gg cap' w2 hown2 hgrow hat hlt; have hq2 := (fr_grown hgrow).obj (Go.Bl.heap_alloc_old HR.out.cells _) hnb; have hfz := frozen_of hq2 4; have hcl := cell_of hq2 4; simp only [List.getElem?_toArray, List.getElem?_cons_zero, List.getElem?_cons_succ] at hcl) | (go_simp; go_at_call 43; refine (hQ w7.drew ⟨hR.cells, hR.suf, hR.short⟩).mono ?_; rintro e w1 ⟨hF1, rfl, hR1⟩; have j4 := cell_of hR1.cells 4; simp only [List.getElem?_toArray, List.getElem?_cons_zero, List.getElem?_cons_succ] at j4; have j5 : ∀ o, (w1.alloc o).cell? ⟨b, 4, none⟩ = some c4 := (fun o => (cell_of (Go.Bl.heap_alloc_old hR1.cells o) 4).trans rfl); have HO := Lib.hid (row_fr hrow hF1.of_drew (fun k hk => by simp only [List.mem_singleton]; rintro rfl; exact hne hk)); have hs1 := hF1.of_drew.size; have HR := Lib.hid hR1; clear hR1))
      all_goals
        go_wp2_with fail
        have hx := RQ.test (t := ⟨n, k, v⟩) (r := l3) HH.out (w' := w2) (c4' := .slice (some ⟨gg, 0, none⟩) (q.tests.length + 1) cap') ?_ hq2 ?_ ?_ (g := gg) rfl ?_ hlr
        · rw [← hf]
          exact ⟨rfl, .tuple #[], by simp [results, Tryz.results23, go_sem], (fr_own F17 _).trans hx.2.1, rfl, _, hx.1, fun k hk => (hx.2.2 k hk).imp_right (Nat.le_trans F17.size)⟩
        · exact (((hF1.of_drew.mono (T := b :: c4.ownBlock.toList) (by simp)).alloc _).trans ((fr_grown hgrow).mono (by simp_all)))
        · rw [hc3, hc5]
          exact ⟨heap_setCell hq2 4 _, HR.out.suf, HR.out.short⟩
        · rw [mtCells_append]
          exact hown2
        · rcases hat with hat | hat
          · exact .inl hat
          · exact .inr (by omega)
end Go.Proofs.YtaniaknphjnlkaaGreatDoor
