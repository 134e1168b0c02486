/- The matchers of a text (attr's reader). -/
import Derived.Test.YtdhmloejgoacaaaGreatDoorMw12
import Derived.Test.YtdhmloejgoacaaaGreatDoorMw05
import Derived.Deep.DeepCutAuto
set_option linter.unusedVariables false
set_option linter.unusedSimpArgs false
namespace Go.Proofs.YtdhmloejgoacaaaGreatDoor
open Go.RowKit Go.Bl Go.Lq

/-- What the list's reading has left: r, whether it can not go on; the list. -/
def LGot (pr : PR (List Mt)) (ms : List Mt) (r : Bs) (bd : Bool) : Prop := match pr with
  | .ok ms' r' => ms = ms' ∧ r = skipL r' ∧ bd = decide (skipL r' ≠ [])
  | .bad r' => r = r' ∧ bd = true
def LPost (b : Nat) (s : ByteArray) (l : Bs) (w : World) (e : Ending) (w' : World) : Prop :=
  ∃ v ms r bd, e = .returned v ∧ Mts w' v ms ∧ LGot (matchL l) ms r bd ∧ Ar 291 w' b s r bd ∧ Fr [b] w w'
def LRel (b B : Nat) (s : ByteArray) (pr : PR (List Mt)) (w : World) (v5 v6 : Value) (wr : World) : Prop :=
  ∃ acc r bd more, v6 = .bool more ∧ wr.ownsRow B 74 3 v5 acc.length (mtCells acc) ∧ acc.length ≤ 65537 ∧ Ar 291 wr b s r bd ∧ Fr [b] w wr ∧
    (more = true ∧ bd = false ∧ acc.length + r.length ≤ 65536 ∧ (∃ f, matchLoop f acc r = pr ∧ r.length < f) ∨ more = false ∧ bd = false ∧ pr = .ok acc r ∨ more = true ∧ bd = true ∧ pr = .bad r)
def measA (s : ByteArray) (b : Nat) (w : World) : Nat := 2 * (s.size - posA w b) + (match w.cell? ⟨b, 2, none⟩ with | some (.bool true) => 0 | _ => 1)
theorem measA_of {T : Nat} {w : World} {b : Nat} {s : ByteArray} {l : Bs} {d : Bool} (h : Ar T w b s l d) : measA s b w = 2 * l.length + (if d then 0 else 1) := by
  have h1 := h.left.1
  unfold measA
  rw [posA_set h, cell_of h.cells]
  cases d <;> simp <;> omega
def Cut18 (b : Nat) (s : ByteArray) (r : Bs) (w1 : World) (M : Nat) (wx : World) : Prop :=
  ∃ m r5 bd, wx.heap[M]? = some (.cells #[.int .i64 m.op, .string ⟨m.key.toArray⟩, .string ⟨m.val.toArray⟩] 74 (0, 0)) ∧ Ar 291 wx b s r5 bd ∧ Rounded r m r5 bd ∧ Fr [b] w1 wx ∧ r5.length ≤ r.length
theorem row_fr1 {b B : Nat} {w w' : World} {v : Value} {n : Nat} {xs : List Value} (h : w.ownsRow B 74 3 v n xs) (hF : Fr [b] w w') (hb : b < B) : w'.ownsRow B 74 3 v n xs :=
  row_fr h hF (fun k hk => by have := row_old h hk; simp; omega)
set_option maxRecDepth 100000 in
set_option maxHeartbeats 4000000 in
theorem listA (b : Nat) (s : ByteArray) (l : Bs) (w : World) (hR : Ar 291 w b s l false) :
    Calls Tryz.prog 222 #[.pointer (some ⟨b, 0, none⟩), .bool true] w (LPost b s l w) := by
  have hbl : b < w.heap.size := lt_of_obj hR.cells
  obtain ⟨B, hB⟩ : ∃ B, w.heap.size = B := ⟨_, rfl⟩
  rw [hB] at hbl
  go_enter Tryz.func222, Tryz.ntmps222
  go_wp2_with fail
  refine (blanksA b s l false _ hR).mono ?_
  rintro e w1 ⟨rfl, hR1, hF1⟩
  go_wp2_with fail
  refine (needA b s ⟨#[123]⟩ (skipL l) false (by decide) _ hR1).mono ?_
  rintro e w2 ⟨rfl, hR2, hF2⟩
  have hF12 := hF1.trans hF2
  rw [show (ByteArray.data ⟨#[123]⟩).toList = ([123] : Bs) from rfl] at hR2
  obtain ⟨r2, bd2, hR2', hg2⟩ : ∃ r2 bd2, Ar 291 w2 b s r2 bd2 ∧ (bd2 = true ∧ matchL l = .bad r2 ∧ r2 = skipL l ∨ bd2 = false ∧ takeL [123] (skipL l) = some r2) := by
    refine ⟨_, _, hR2, ?_⟩
    unfold matchL
    cases hv : takeL [123] (skipL l) with
    | none => exact .inl ⟨rfl, rfl, rfl⟩
    | some x => exact .inr ⟨rfl, rfl⟩
  clear hR2 hR1
  go_wp2_with fail
  refine (blanksA b s r2 bd2 _ hR2').mono ?_
  rintro e w3 ⟨rfl, hR3, hF3⟩
  go_wp2_with fail
  refine (takeA b s ⟨#[125]⟩ (skipL r2) bd2 (by decide) _ hR3).mono ?_
  rintro e w4 ⟨rfl, hR4, hF4⟩
  have hF14 := (hF12.trans hF3).trans hF4
  rw [show (ByteArray.data ⟨#[125]⟩).toList = ([125] : Bs) from rfl] at hR4 ⊢
  have hsz4 := hR4.left.1
  have hsh4 := hR4.short
  have H0 : ∃ x : Bool, (!bd2 && (takeL [125] (skipL r2)).isSome) = x ∧ LRel b B s (matchL l) w (.slice none 0 0) (.bool !x) w4 := by
    refine ⟨_, rfl, [], _, _, _, rfl, World.ownsRow_nil _ _ _ _, by simp, hR4, hF14, ?_⟩
    rcases hg2 with ⟨rfl, hg⟩ | ⟨rfl, hg⟩
    · refine .inr (.inr ⟨rfl, rfl, ?_⟩)
      rw [if_pos rfl]
      have hsk : skipL r2 = r2 := by rw [hg.2, skip_skip]
      rw [hsk, hg.1]
    · cases hv : takeL [125] (skipL r2) with
      | none =>
        refine .inl ⟨rfl, rfl, ?_, l.length + 1, ?_, ?_⟩
        · rw [hv] at hR4
          have := hR4.left.1
          simp at this ⊢
          omega
        · unfold matchL
          rw [hg]
          simp only
          rw [hv]
          rfl
        · have h1 := takeL_len hg
          have h2 := skipL_le l
          have h3 := skipL_le r2
          simp at h1 ⊢
          omega
      | some x =>
        refine .inr (.inl ⟨rfl, rfl, ?_⟩)
        unfold matchL
        rw [hg]
        simp only
        rw [hv]
        rfl
  obtain ⟨x, hmore, H0⟩ := H0
  rw [hmore]
  clear hmore hR4 hF14 hF4 hF3 hF12 hF1 hF2 hR3 hg2 hR2' hsz4 hsh4
  go_wp2_with fail
  go_loopw [5, 6] (fun v5 v6 wr => LRel b B s (matchL l) w v5 v6 wr) (fun _ _ wr => measA s b wr)
  case atStart => exact H0
  case round =>
    clear H0
    obtain ⟨acc, r, bd, more, rfl, hrow, hacc, hR1, hF1, hcase⟩ := hrel
    have hm0 := measA_of hR1
    by_cases hgo : more = true ∧ bd = false
    case neg =>
      have k0 := cell_of hR1.cells 0
      have k1 := cell_of hR1.cells 1
      have k2 := cell_of hR1.cells 2
      have z2 := frozen_of hR1.cells 2
      simp only [List.getElem?_toArray, List.getElem?_cons_zero, List.getElem?_cons_succ] at k0 k1 k2
      have hM := Mts.ofRow hrow (by omega)
      rcases hcase with ⟨rfl, rfl, _⟩ | ⟨rfl, rfl, hpr⟩ | ⟨rfl, rfl, hpr⟩
      · exact absurd ⟨rfl, rfl⟩ hgo
      · go_wp2_with fail
        refine (blanksA b s r false _ hR1).mono ?_
        rintro e w2 ⟨rfl, hR2, hF2⟩
        have j0 := cell_of hR2.cells 0
        have j1 := cell_of hR2.cells 1
        have j2 := cell_of hR2.cells 2
        have y2 := frozen_of hR2.cells 2
        simp only [List.getElem?_toArray, List.getElem?_cons_zero, List.getElem?_cons_succ] at j0 j1 j2
        obtain ⟨r2, hr2⟩ : ∃ r2, skipL r = r2 := ⟨_, rfl⟩
        rw [hr2] at hR2 j1
        have hg : LGot (matchL l) acc r2 (decide (r2 ≠ [])) := by rw [hpr]; exact ⟨rfl, hr2.symm, by rw [hr2]⟩
        have HP := Lib.hid hpr
        clear hpr
        go_wp2_with fail
        rcases r2 with _ | ⟨c, r3⟩
        · have g0 : decide (((s.size - ([] : Bs).length : Nat) : Int) < (s.size : Int)) = false := by simp
          go_region
          go_wp2_with fail
          go_ret
          have hF3 : Fr [b] w2 _ := (Fr.refl [b] w2).drew.setCell1 2 (.bool false)
          exact ⟨_, acc, [], _, rfl, Mts.ofRow (row_fr1 hrow (hF2.trans hF3) hbl) (by omega), hg, (hR2.drew).flag false, (hF1.trans hF2).trans hF3⟩
        · obtain ⟨p, hp1, hp2, hp3, hp4⟩ := hR2.at
          rw [hp1] at j1
          have g0 : decide ((p : Int) < (s.size : Int)) = true := by simp; omega
          go_region
          go_wp2_with fail
          go_ret
          have hF3 : Fr [b] w2 _ := (Fr.refl [b] w2).drew.setCell1 2 (.bool true)
          exact ⟨_, acc, c :: r3, _, rfl, Mts.ofRow (row_fr1 hrow (hF2.trans hF3) hbl) (by omega), hg, (hR2.drew).flag true, (hF1.trans hF2).trans hF3⟩
      · have hg : LGot (matchL l) acc r true := by rw [hpr]; exact ⟨rfl, rfl⟩
        have HP := Lib.hid hpr
        clear hpr
        go_wp2_with fail
        go_region
        go_wp2_with fail
        go_ret
        have hF3 : Fr [b] wr _ := (Fr.refl [b] wr).drew.setCell1 2 (.bool true)
        exact ⟨_, acc, r, _, rfl, Mts.ofRow (row_fr1 hrow hF3 hbl) (by omega), hg, (hR1.drew).flag true, hF1.trans hF3⟩
    case pos =>
      obtain ⟨rfl, rfl⟩ := hgo
      have hl1 : acc.length + r.length ≤ 65536 ∧ ∃ f, matchLoop f acc r = matchL l ∧ r.length < f := by
        rcases hcase with ⟨_, _, h1, h2⟩ | ⟨h, _⟩ | ⟨_, h, _⟩
        · exact ⟨h1, h2⟩
        · cases h
        · cases h
      obtain ⟨hl1, f, hf, hlt⟩ := hl1
      clear hcase
      obtain ⟨f, rfl⟩ : ∃ g, f = g + 1 := ⟨f - 1, by omega⟩
      have HF := Lib.hid hf
      have HA := Lib.hid hacc
      have HL := Lib.hid hl1
      have HM := Lib.hid hm0
      clear hf hacc hl1 hm0
      have k2 := cell_of hR1.cells 2
      simp only [List.getElem?_toArray, List.getElem?_cons_zero, List.getElem?_cons_succ] at k2
      go_wp2_with fail
      refine (blanksA b s r false _ hR1).mono ?_
      rintro e w2 ⟨rfl, hR2, hF2⟩
      go_wp2_with fail
      refine (keyA b s (skipL r) _ hR2).mono ?_
      rintro e w3 ⟨k, r1, bd1, rfl, hg1, hR3, hF3⟩
      obtain ⟨M, hM⟩ : ∃ M, w3.heap.size = M := ⟨_, rfl⟩
      have hbM : b ≠ M := by have := lt_of_obj hR3.cells; omega
      have hR4 : Ar 291 (w3.alloc (.cells #[.int .i64 1, .string ⟨k.toArray⟩, .string ⟨#[]⟩] 74)) b s r1 bd1 := hR3.fr ((Fr.refl [] w3).alloc _) (by simp)
      have hF4 : Fr [b] w3 (w3.alloc (.cells #[.int .i64 1, .string ⟨k.toArray⟩, .string ⟨#[]⟩] 74)) := (Fr.refl _ _).alloc _
      have hC4 := Go.Bl.heap_alloc w3 (.cells #[.int .i64 1, .string ⟨k.toArray⟩, .string ⟨#[]⟩] 74)
      go_wp2_with fail
      rw [hM] at hC4
      obtain ⟨w4, hw4⟩ : ∃ w4, w3.alloc (.cells #[.int .i64 1, .string ⟨k.toArray⟩, .string ⟨#[]⟩] 74) = w4 := ⟨_, rfl⟩
      rw [hw4] at hR4 hC4 hF4 ⊢
      clear hw4
      refine (blanksA b s r1 bd1 _ hR4).mono ?_
      rintro e w5 ⟨rfl, hR5, hF5⟩
      go_wp2_with fail
      refine (opA b s (skipL r1) bd1 _ hR5).mono ?_
      rintro e w6 ⟨n, r2', bd2', rfl, hg2, hR6, hF6⟩
      have hC6 := (hF5.trans hF6).obj hC4 (by simpa using hbM.symm)
      have y0 := frozen_of hC6 0
      have x0 := cell_of hC6 0
      simp only [List.getElem?_toArray, List.getElem?_cons_zero, List.getElem?_cons_succ] at x0
      have hl6 := lt_of_obj hC6
      have hF7 : Fr [b] w3 (w6.setCell ⟨M, 0, none⟩ (.int .i64 n)) := ((hF4.trans hF5).trans hF6).setCell (.inr (by rw [hM]; exact Nat.le_refl _)) _
      have hC7 := heap_setCell hC6 0 (.int .i64 n)
      have hR7 : Ar 291 (w6.setCell ⟨M, 0, none⟩ (.int .i64 n)) b s r2' bd2' := ⟨by rw [heap_setCell_ne hbM]; exact hR6.cells, hR6.suf, hR6.short⟩
      go_upto_region 13 with fail
      obtain ⟨w7, hw7⟩ : ∃ w7, w6.setCell ⟨M, 0, none⟩ (.int .i64 n) = w7 := ⟨_, rfl⟩
      rw [hw7] at hF7 hC7 hR7 ⊢
      clear hw7 y0 x0
      have k7 := cell_of hR7.cells 2
      simp only [List.getElem?_toArray, List.getElem?_cons_zero, List.getElem?_cons_succ] at k7
      go_upto_if 42 with fail
      go_cut [] (fun wx => Ar 291 wx b s (if bd2' then r2' else skipL r2') bd2' ∧ Fr [b] w7 wx)
      case first =>
        cases bd2'
        · go_wp2_with fail
          refine (blanksA b s r2' false _ hR7).mono ?_
          rintro e w8 ⟨rfl, hR8, hF8⟩
          go_wp2_with fail
          go_meet
          exact ⟨hR8, hF8⟩
        · go_wp2_with fail
          go_meet
          exact ⟨hR7, Fr.refl _ _⟩
      case rest =>
      obtain ⟨w8, rfl⟩ : ∃ w8, w8 = wc := ⟨_, rfl⟩
      obtain ⟨hR8, hF8⟩ := hcut
      obtain ⟨r3, hr3⟩ : ∃ r3, (if bd2' then r2' else skipL r2') = r3 := ⟨_, rfl⟩
      rw [hr3] at hR8
      go_wp2_with fail
      refine (quotedA b s r3 bd2' _ hR8).mono ?_
      rintro e w9 ⟨v, r4, bd3, rfl, hg3, hR9, hF9⟩
      have hC9 := (hF8.trans hF9).obj hC7 (by simpa using hbM.symm)
      have y9 := frozen_of hC9 2
      have x9 := cell_of hC9 2
      simp only [List.set_cons_zero, List.setIfInBounds_toArray, List.getElem?_toArray, List.getElem?_cons_zero, List.getElem?_cons_succ] at x9
      have hF10 : Fr [b] w3 (w9.setCell ⟨M, 2, none⟩ (.string ⟨v.toArray⟩)) := ((hF7.trans hF8).trans hF9).setCell (.inr (by rw [hM]; exact Nat.le_refl _)) _
      have hC10 := heap_setCell hC9 2 (.string ⟨v.toArray⟩)
      have hR10 : Ar 291 (w9.setCell ⟨M, 2, none⟩ (.string ⟨v.toArray⟩)) b s r4 bd3 := ⟨by rw [heap_setCell_ne hbM]; exact hR9.cells, hR9.suf, hR9.short⟩
      go_upto_region 16 with fail
      obtain ⟨w10, hw10⟩ : ∃ w10, w9.setCell ⟨M, 2, none⟩ (.string ⟨v.toArray⟩) = w10 := ⟨_, rfl⟩
      rw [hw10] at hF10 hC10 hR10 ⊢
      clear hw10 y9 x9
      have k10 := cell_of hR10.cells 2
      simp only [List.getElem?_toArray, List.getElem?_cons_zero, List.getElem?_cons_succ] at k10
      go_upto_if 52 with fail
      go_cut [] (fun wx => Cut18 b s r w3 M wx)
      case first =>
        have hC11 : w10.heap[M]? = some (.cells #[.int .i64 n, .string ⟨k.toArray⟩, .string ⟨v.toArray⟩] 74 (0, 0)) := hC10
        cases bd3
        · go_wp2_with fail
          refine (blanksA b s r4 false _ hR10).mono ?_
          rintro e w11 ⟨rfl, hR11, hF11⟩
          go_wp2_with fail
          go_meet
          exact ⟨⟨n, k, v⟩, skipL r4, false, hF11.obj hC11 (by simpa using hbM.symm), hR11, round_plain hg1 hg2 hr3.symm hg3 rfl, hF10.trans hF11, round_le hg1 hg2 hr3.symm hg3 rfl⟩
        · go_wp2_with fail
          go_meet
          exact ⟨⟨n, k, v⟩, r4, true, hC11, hR10, round_plain hg1 hg2 hr3.symm hg3 rfl, hF10, round_le hg1 hg2 hr3.symm hg3 rfl⟩
      case rest =>
      clear hg1 hg2 hg3 hr3 hR4 hR5 hR6 hR7 hR8 hR9 hR10 hF4 hF5 hF6 hF7 hF8 hF9 hF10 hC4 hC6 hC7 hC9 hC10 k7 k10 hl6
      obtain ⟨w12, rfl⟩ : ∃ w12, w12 = wc := ⟨_, rfl⟩
      obtain ⟨m, r5, bd, hC, hR12, hRd, hF12, hRle⟩ := hcut
      have hrow12 := row_fr1 hrow ((hF2.trans hF3).trans hF12) hbl
      have hF13 := ((hF1.trans hF2).trans hF3).trans hF12
      obtain ⟨i0, hi0, hz0, hz1, hz2⟩ := info_parts infoMt
      have c0 := cell_of hC 0
      have c1 := cell_of hC 1
      have c2 := cell_of hC 2
      simp only [List.getElem?_toArray, List.getElem?_cons_zero, List.getElem?_cons_succ] at c0 c1 c2
      have hBw : B ≤ w12.heap.size := by rw [← hB]; exact hF13.size
      have hal : acc.length ≤ 65537 := HA.out
      go_wp2_with (at_builtin; refine wpList_append_lies _ rfl (.tmp 55) (.tmp 57) 22 rfl B 74 i0 _ 3 _ Tryz.underlying22 hi0 hz0 hz1 hz2 rfl (by omega) u5 acc.length (mtCells acc) (by simp [Act.eval]) (hrow12.alloc _) ⟨w12.heap.size, 0, none⟩ 1 1 [.int .i64 m.op, .string ⟨m.key.toArray⟩, .string ⟨m.val.toArray⟩] (by simp [Act.eval]) rfl (news3 w12 _ _ _ _) (by simp [Value.oneCell']) (by omega) (by unfold maxLen; omega) (by omega) (by simp; omega) (w12.heap.size + 1) (by simp) ?_; intro gg cap' w13 hown13 hgrow hat hlt)
      have hown : ∀ k, u5.ownBlock = some k → B ≤ k := fun k hk => (row_old hrow12 hk).1
      have hbo : b ∉ u5.ownBlock.toList := by
        rw [Option.mem_toList]
        intro h
        have := hown _ h
        omega
      have hFg := (fr_grown hgrow)
      have hR13 : Ar 291 w13 b s r5 bd := (hR12.fr ((Fr.refl [] _).alloc _) (by simp)).fr hFg hbo
      have hF14 : Fr [b] w w13 := ((hF13.alloc _).mono (T := b :: u5.ownBlock.toList) (fun i hi => .inl (by simp_all))).trans (hFg.mono (fun i hi => .inl (by simp_all))) |>.mono (fun i hi => by
        rcases List.mem_cons.1 hi with rfl | h
        · exact .inl (by simp)
        · exact .inr (by rw [hB]; exact hown _ (Option.mem_toList.1 h)))
      have hrow13 : w13.ownsRow B 74 3 (.slice (some ⟨gg, 0, none⟩) (acc.length + 1) cap') (acc ++ [m]).length (mtCells (acc ++ [m])) := by
        rw [mtCells_append, List.length_append]
        exact hown13
      have hm0 := HM.out
      have hl1 := HL.out
      have hff := HF.out
      clear hm0 hl1 hff hR12 hC hF12 hrow12 hown13 hgrow hFg hat c0 c1 c2 hbo hown hrow hR1 hR2 hR3 hF1 hF2 hF3 hF13
      refine (takeA b s ⟨#[125]⟩ r5 bd (by decide) _ hR13).mono ?_
      rintro e w14 ⟨rfl, hR14, hF15⟩
      rw [show (ByteArray.data ⟨#[125]⟩).toList = ([125] : Bs) from rfl] at hR14 ⊢
      have hrow14 := row_fr1 hrow13 hF15 hbl
      have hF16 := hF14.trans hF15
      have hacc2 : (acc ++ [m]).length ≤ 65537 := by
        have := HL.out
        simp
        omega
      cases bd
      · have hlp := hRd.loop f acc
        have hless := hRd.less
        rw [HF.out] at hlp
        have HP := Lib.hid hlp
        have HS := Lib.hid hless
        clear hlp hless
        obtain ⟨tk, htk⟩ : ∃ tk, takeL [125] r5 = tk := ⟨_, rfl⟩
        rw [htk] at hR14 ⊢
        cases tk with
        | some x =>
          go_wp2_with fail
          have hR15 : Ar 291 w14 b s x false := hR14
          refine ⟨⟨acc ++ [m], x, false, false, rfl, by simpa using hrow14, hacc2, hR15, hF16, .inr (.inl ⟨rfl, rfl, ?_⟩)⟩, ?_⟩
          · have := HP.out
            rw [htk] at this
            exact this
          · rw [measA_of hR15, HM.out]
            have := takeL_len htk
            have := HS.out
            simp at *
            omega
        | none =>
          go_wp2_with fail
          have hR15 : Ar 291 w14 b s r5 false := hR14
          refine (needA b s ⟨#[44]⟩ r5 false (by decide) _ hR15).mono ?_
          rintro e w15 ⟨rfl, hR16, hF17⟩
          rw [show (ByteArray.data ⟨#[44]⟩).toList = ([44] : Bs) from rfl] at hR16
          have hrow15 := row_fr1 hrow14 hF17 hbl
          have hF18 := hF16.trans hF17
          obtain ⟨tc, htc⟩ : ∃ tc, takeL [44] r5 = tc := ⟨_, rfl⟩
          rw [htc] at hR16
          cases tc with
          | some x =>
            have hR17 : Ar 291 w15 b s x false := hR16
            go_wp2_with fail
            have hxl := takeL_len htc
            simp only [List.length_cons, List.length_nil] at hxl
            refine ⟨⟨acc ++ [m], x, false, true, rfl, by simpa using hrow15, hacc2, hR17, hF18, .inl ⟨rfl, rfl, ?_, f, ?_, ?_⟩⟩, ?_⟩
            · have := HL.out
              have := HS.out
              simp
              omega
            · have := HP.out
              rw [htk, htc] at this
              exact this.symm
            · have := HS.out
              omega
            · rw [measA_of hR17, HM.out]
              have := HS.out
              simp
              omega
          | none =>
            have hR17 : Ar 291 w15 b s r5 true := hR16
            go_wp2_with fail
            refine ⟨⟨acc ++ [m], r5, true, true, rfl, by simpa using hrow15, hacc2, hR17, hF18, .inr (.inr ⟨rfl, rfl, ?_⟩)⟩, ?_⟩
            · have := HP.out
              rw [htk, htc] at this
              exact this
            · rw [measA_of hR17, HM.out]
              have := HS.out
              simp
              omega
      · have hpr : matchL l = .bad r5 := by
          rcases hRd with ⟨h, _⟩ | ⟨_, h⟩
          · cases h
          · rw [← HF.out, h]
        have HP := Lib.hid hpr
        clear hpr
        go_wp2_with fail
        have hR15 : Ar 291 w14 b s r5 true := hR14
        refine (needA b s ⟨#[44]⟩ r5 true (by decide) _ hR15).mono ?_
        rintro e w15 ⟨rfl, hR16, hF17⟩
        have hR17 : Ar 291 w15 b s r5 true := hR16
        have hrow15 := row_fr1 hrow14 hF17 hbl
        go_wp2_with fail
        refine ⟨⟨acc ++ [m], r5, true, true, rfl, by simpa using hrow15, hacc2, hR17, hF16.trans hF17, .inr (.inr ⟨rfl, rfl, HP.out⟩)⟩, ?_⟩
        rw [measA_of hR17, HM.out]
        have hle : r5.length ≤ r.length := hRle
        simp
        omega
end Go.Proofs.YtdhmloejgoacaaaGreatDoor
