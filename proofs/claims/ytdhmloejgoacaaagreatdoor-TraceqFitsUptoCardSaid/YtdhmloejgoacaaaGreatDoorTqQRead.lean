/- A quoted text of a query is read. -/
import Derived.Test.YtdhmloejgoacaaaGreatDoorMw21
import Derived.Test.YtdhmloejgoacaaaGreatDoorMw26
set_option linter.unusedVariables false
set_option linter.unusedSimpArgs false
namespace Go.Proofs.YtdhmloejgoacaaaGreatDoor
open Go.RowKit Go.Bl Go.Lq Go.Tq

theorem wrongM_ne (V : Bs → Bool) : ∀ l, wrongM V l ≠ 3
  | [] => by unfold wrongM; decide
  | m :: l => by
    have ih := wrongM_ne V l
    unfold wrongM
    split
    · decide
    · split
      · decide
      · split
        · decide
        · exact ih
theorem rightM_ne (V : Bs → Bool) (l : List Mt) : rightM V l ≠ 3 := by
  unfold rightM
  split
  · decide
  · exact wrongM_ne V l
theorem pm_gen (s : ByteArray) (hs : s.size ≤ 65536) (w : World) (hG : GV w) (h8 : 8 ≤ w.heap.size) : Calls Tryz.prog 217 #[.string s] w fun e w' =>
    ∃ v c p, e = .returned (.tuple #[v, .int .i64 c, .int .i64 p]) ∧ Fr [] w w' ∧ (c = 3 → ∃ r, pmP s.data.toList = .form r ∧ p = ((s.size - r.length : Nat) : Int)) := by
  refine (parseMatchA s hs w hG h8).mono ?_
  rintro e w' ⟨hF, h⟩
  cases hp : pmP s.data.toList with
  | size => rw [hp] at h; exact ⟨_, _, _, h, hF, fun h => absurd h (by decide)⟩
  | form r => rw [hp] at h; exact ⟨_, _, _, h, hF, fun _ => ⟨r, rfl, rfl⟩⟩
  | wrong n =>
    rw [hp] at h
    refine ⟨_, _, _, h, hF, fun h3 => ?_⟩
    exfalso
    unfold pmP at hp
    split at hp
    · cases hp
    · split at hp
      · cases hp
      · split at hp
        · cases hp
        · split at hp
          · cases hp
            exact rightM_ne _ _ h3
          · cases hp
  | ok ms => rw [hp] at h; obtain ⟨v, h, _⟩ := h; exact ⟨_, _, _, h, hF, fun h => absurd h (by decide)⟩
theorem cutGo_suf {e : UInt8} {b : Bool} {l r : Bs} (h : cutGo e b l = some r) : r <:+ l := by
  obtain ⟨a, ha, _⟩ := cut_prefix e _ b _ r (Nat.le_refl _) h
  exact ⟨a, ha.symm⟩
theorem unq_val (U : ByteArray) (hs : U.size ≤ 65536) : ∃ tv te, (∀ W, Calls Tryz.prog 219 #[.string U] W fun e w' => e = .returned (.tuple #[.string tv, .int .i64 te]) ∧ Fr [] W w') ∧
    ((∃ t, unqP U.data.toList = some t ∧ tv = ⟨t.toArray⟩ ∧ te = 0) ∨ (unqP U.data.toList = none ∧ tv = ⟨#[]⟩ ∧ te = 3)) := by
  cases h : unqP U.data.toList with
  | some t =>
    refine ⟨⟨t.toArray⟩, 0, fun W => (unquoteA U hs W).mono ?_, .inl ⟨t, rfl, rfl, rfl⟩⟩
    rintro e w' ⟨hF, hx⟩
    rw [h] at hx
    exact ⟨hx, hF⟩
  | none =>
    refine ⟨⟨#[]⟩, 3, fun W => (unquoteA U hs W).mono ?_, .inr ⟨rfl, rfl, rfl⟩⟩
    rintro e w' ⟨hF, hx⟩
    rw [h] at hx
    exact ⟨hx, hF⟩
theorem ar2 {T b : Nat} {w w' : World} {s : ByteArray} {l : Bs} {d : Bool} (h : Ar T w b s l d) {p : Nat} (hp : s.size - l.length = p) (hF : Fr [] w w') :
    w'.cell? ⟨b, 0, none⟩ = some (.string s) ∧ w'.cell? ⟨b, 1, none⟩ = some (.int .i64 (p : Int)) ∧ Fr [] w w' := by
  have h2 := (h.fr hF (by simp)).cells
  rw [hp] at h2
  exact ⟨cell_of h2 0, cell_of h2 1, hF⟩
set_option maxRecDepth 100000 in
set_option maxHeartbeats 2000000 in
theorem quotedRead_any (b Q o : Nat) (cs : Array Value) (TQ : Nat) (s : ByteArray) (l : Bs) (w : World) (h : Ar 84 w b s l false) (hs : s.size ≤ 1024) (hG : GV w) (hb8 : 8 ≤ b) (hQ8 : 8 ≤ Q)
    (hQ : w.heap[Q]? = some (.cells cs TQ (0, 0))) (hbQ : b ≠ Q) (v0 : Value) (ho : cs[o]? = some v0) :
    Calls Tryz.prog 216 #[.agg #[.pointer (some ⟨Q, o, none⟩)], .pointer (some ⟨b, 0, none⟩)] w (ToPost b Q o cs TQ s l ((readQuoted l).map fun x => (.string ⟨x.1.toArray⟩, x.2)) w) := by
  have h8 : 8 ≤ w.heap.size := by have := lt_of_obj hQ; omega
  obtain ⟨rc, hrc⟩ : ∃ rc, readQuoted l = rc := ⟨_, rfl⟩
  rw [hrc]
  have HRC := Lib.hid hrc
  clear hrc
  have hF0 : Fr [] w (w.alloc (.cells #[.pointer (some ⟨Q, o, none⟩)] 118)) := (Fr.refl _ _).alloc _
  have hR0 := h.fr hF0 (by simp)
  have hQ0 := hF0.obj hQ (by simp)
  have hG0 := hG.frn hF0 h8
  have hT0 := Go.Bl.heap_alloc w (.cells #[.pointer (some ⟨Q, o, none⟩)] 118)
  obtain ⟨H, hH⟩ : ∃ H, w.heap.size = H := ⟨_, rfl⟩
  have hbH : b ≠ H := by have := lt_of_obj h.cells; omega
  rw [hH] at hT0
  go_enter Tryz.func216, Tryz.ntmps216
  go_upto_region 1 with fail
  obtain ⟨w0, hw0⟩ : ∃ w0, w.alloc (.cells #[.pointer (some ⟨Q, o, none⟩)] 118) = w0 := ⟨_, rfl⟩
  rw [hw0] at hF0 hR0 hQ0 hG0 hT0 ⊢
  clear hw0
  have h80 := Nat.le_trans h8 hF0.size
  go_wp2_with fail
  refine (word_any b s l false _ hR0).mono ?_
  rintro e w1 ⟨rfl, hR1, hF1⟩
  have hG1 := hG0.below (hF1.below (B := 8) h80 (by simp; exact hb8)) (Nat.le_refl _)
  have hT1 := hF1.obj hT0 (by simpa using hbH.symm)
  have hQ1 := hF1.obj hQ0 (by simpa using hbQ.symm)
  have h81 := Nat.le_trans h80 hF1.size
  have hFa : Fr [b, Q] w w1 := (fr2 ((hF0.mono (T := [b]) (fun i hi => by simp at hi)).trans hF1))
  obtain ⟨m, hm⟩ : ∃ m, skipL l = m := ⟨_, rfl⟩
  rw [hm] at hR1
  have HM := Lib.hid hm
  clear hm hT0 hQ0 hG0 hR0
  have k0 := cell_of hR1.cells 0
  have k1 := cell_of hR1.cells 1
  have k2 := cell_of hR1.cells 2
  have z2 := frozen_of hR1.cells 2
  simp only [List.getElem?_toArray, List.getElem?_cons_zero, List.getElem?_cons_succ] at k0 k1 k2
  have hbad : ∀ w3, Fr [] w1 w3 → readQuoted l = none → ToPost b Q o cs TQ s l (Option.map (fun x => (Value.string ⟨x.1.toArray⟩, x.2)) rc) w (.returned (.tuple #[])) (w3.setCell ⟨b, 2, none⟩ (.bool true)) := by
    intro w3 hF3 hn
    refine ⟨rfl, (hFa.trans (hF3.mono (fun i hi => by simp at hi))).setCell (.inl (by simp)) _, ?_⟩
    rw [show rc = none by rw [← HRC.out]; exact hn]
    have hR3 := hR1.fr hF3 (by simp)
    exact ⟨by rw [heap_setCell_ne hbQ.symm]; exact hF3.obj hQ1 (by simp), _, hR3.suf, hR3.flag true⟩
  have HB := Lib.hid hbad
  clear hbad
  rcases m with _ | ⟨c, ds⟩
  · have hrn : readQuoted l = none := by unfold readQuoted; rw [HM.out]
    have g0 : (((s.size - ([] : Bs).length : Nat) : Int) ≥ (s.size : Int)) := by simp
    go_wp2_with fail
    go_quiet (fail)
    go_wp2_with fail
    refine bodyPost_ret (results_none rfl _ _ _) rfl ?_
    exact HB.out _ ((Fr.refl _ _).drewN _) hrn
  · obtain ⟨p, hp1, hp2, hp3, hp4⟩ := hR1.at
    rw [hp1] at k1
    have g1 : (0 : Int) ≤ (p : Int) ∧ (p : Int) < (s.size : Int) := by omega
    have g0 : ¬ s.size ≤ p := by omega
    by_cases q1 : c = 34
    case neg =>
      have q1a : ((c.toNat : Int) != 34) = true := by
        have := u8_ne (n := 34) (by omega) q1
        show (!((c.toNat : Int) == ((34 : Nat) : Int))) = true
        rw [this]; rfl
      have hrn : readQuoted l = none := by unfold readQuoted; rw [HM.out]; simp only; rw [if_neg q1]
      go_wp2_with fail
      go_quiet (fail)
      go_wp2_with fail
      refine bodyPost_ret (results_none rfl _ _ _) rfl ?_
      exact HB.out _ ((Fr.refl _ _).drewN _) hrn
    case pos =>
    have q1a : ((c.toNat : Int) != 34) = false := by subst q1; rfl
    have HC := Lib.hid q1
    clear q1
    go_wp2_with fail
    go_quiet (fail)
    obtain ⟨R, hRx⟩ : ∃ R : ByteArray, s.extract p s.size = R := ⟨_, rfl⟩
    have hRs : R.data.toList = c :: ds := by
      rw [← hRx, ← hp1]
      exact hR1.left.2
    have hRz : R.size ≤ 1024 := by
      rw [← bytes_len, hRs]
      have := hR1.left.1
      omega
    have g3 : ¬ 9223372036854775807 < 3 + R.size := by omega
    have g4 : p ≤ s.size := by omega
    obtain ⟨X, hX⟩ : ∃ X : ByteArray, (⟨#[123, 97, 61]⟩ : ByteArray) ++ R = X := ⟨_, rfl⟩
    have hXs : X.data.toList = 123 :: 97 :: 61 :: (c :: ds) := by rw [← hX]; simp [hRs]
    have hXz : X.size ≤ 65536 := by
      rw [← bytes_len, hXs]
      have := hR1.left.1
      simp at this ⊢
      omega
    have hpm : ∀ W, Fr [] w1 W → Calls Tryz.prog 217 #[.string ((⟨#[123, 97, 61]⟩ : ByteArray) ++ R)] W fun e w' =>
        ∃ v c p, e = .returned (.tuple #[v, .int .i64 c, .int .i64 p]) ∧ Fr [] W w' ∧ (c = 3 → ∃ r, pmP X.data.toList = .form r ∧ p = ((X.size - r.length : Nat) : Int)) := by
      intro W hW
      rw [hX]
      exact pm_gen X hXz W (hG1.frn hW h81) (Nat.le_trans h81 hW.size)
    have HX := Lib.hid (And.intro hX (And.intro hXs hRs))
    clear hX hXs hRs hXz
    have HRa := Lib.hid hR1
    go_wp2_with fail
    go_region_held3 (fun w' => w'.cell? ⟨b, 0, none⟩ = some (.string s) ∧ w'.cell? ⟨b, 1, none⟩ = some (.int .i64 (p : Int)) ∧ Fr [] w1 w') (exact ar2 HRa.out hp1 (by (repeat (first | with_reducible exact Fr.refl _ _ | assumption | with_reducible refine Fr.drew ?_ | with_reducible refine Fr.drewN ?_ _)))) (first | (go_at_call 217; (try rw [hRx]); refine (hpm _ (by (repeat (first | with_reducible exact Fr.refl _ _ | assumption | with_reducible refine Fr.drew ?_ | with_reducible refine Fr.drewN ?_ _)))).mono ?_; rintro e w2 ⟨v, why, at', rfl, hF2, hform⟩; have hX : Fr [] w1 w2 := Fr.trans (by (repeat (first | with_reducible exact Fr.refl _ _ | assumption | with_reducible refine Fr.drew ?_ | with_reducible refine Fr.drewN ?_ _))) hF2))
    rename_i hh
    obtain ⟨j0, j1, hX2⟩ := hh
    clear hX hF2 hpm
    have hR2 := HRa.out.fr hX2 (by simp)
    have hQ2 := hX2.obj hQ1 (by simp)
    have hT2 := hX2.obj hT1 (by simp)
    have hRl : R.data.toList = c :: ds := HX.out.2.2
    have hcut := cut_any R 34 (.inl rfl) (by omega)
    rw [hRl] at hcut
    obtain ⟨n, k, hn, hk, hkk⟩ : ∃ (n : Int) (k : Nat), cutV R (cutGo 34 false (c :: ds)) = .int .i64 n ∧ (max n 0 = (k : Int)) ∧ p + k ≤ s.size := by
      have hrs : R.size = s.size - p := by rw [← hRx]; simp
      cases hcg : cutGo 34 false (c :: ds) with
      | none => exact ⟨-1, 0, rfl, rfl, by omega⟩
      | some r => exact ⟨((R.size - r.length : Nat) : Int), R.size - r.length, rfl, by omega, by omega⟩
    rw [hn] at hcut
    have HN := Lib.hid hn
    clear hn hRl
    go_wp2_with fail
    go_quiet ((go_at_call 218; (try rw [hRx]); exact Calls.quiet_of_same (hcut _)))
    obtain ⟨q, hq⟩ : ∃ q, p + k = q := ⟨_, rfl⟩
    obtain ⟨U, hU⟩ : ∃ U : ByteArray, s.extract p q = U := ⟨_, rfl⟩
    have hUs : U.size ≤ 65536 := by rw [← hU]; simp; omega
    have g5 : q ≤ s.size := by omega
    have g6 : p ≤ q := by omega
    have g8 : True → IntKind.i64.wrap ((p : Int) + (k : Int)) = (q : Int) := fun _ => by rw [IntKind.wrap_i64]; omega
    have HU := Lib.hid hU
    clear hcut
    obtain ⟨tv, te, hunq, hcase⟩ := unq_val U hUs
    have HUC := Lib.hid hcase
    clear hcase
    have HRb := Lib.hid hR2
    go_wp2_with fail
    go_region_held3 (fun w' => w'.cell? ⟨b, 0, none⟩ = some (.string s) ∧ w'.cell? ⟨b, 1, none⟩ = some (.int .i64 (p : Int)) ∧ Fr [] w2 w') (exact ar2 HRb.out hp1 (by (repeat (first | with_reducible exact Fr.refl _ _ | assumption | with_reducible refine Fr.drew ?_ | with_reducible refine Fr.drewN ?_ _)))) (first | (go_at_call 219; (try rw [hU]); refine (hunq _).mono ?_; rintro e w3 ⟨rfl, hF3⟩; have hX : Fr [] w2 w3 := Fr.trans (by (repeat (first | with_reducible exact Fr.refl _ _ | assumption | with_reducible refine Fr.drew ?_ | with_reducible refine Fr.drewN ?_ _))) hF3))
    rename_i hh
    obtain ⟨y0, y1, y3⟩ := hh
    clear hX hF3 hunq j0 j1 k0 k1 k2
    have hR3 := HRb.out.fr y3 (by simp)
    have hQ3 := y3.obj hQ2 (by simp)
    have hT3 := y3.obj hT2 (by simp)
    clear hR2 hQ2 hT2 hR1 hQ1 hT1 z2
    have hX3 := hX2.trans y3
    clear hX2 y3
    have hRl : R.data.toList = c :: ds := HX.out.2.2
    have hRn : R.size = (c :: ds).length := by rw [← hRl, bytes_len]
    have hdp : s.data.toList.drop p = c :: ds := by
      have h1 : (s.data.toList.drop p).take (s.size - p) = c :: ds := by rw [← extract_list, hRx, hRl]
      rwa [List.take_of_length_le (by simp)] at h1
    have hUl : U.data.toList = (c :: ds).take k := by
      rw [← hU, extract_list, hdp]
      congr 1
      omega
    have y2 := cell_of hR3.cells 2
    have z0 := frozen_of hR3.cells 0
    have z1 := frozen_of hR3.cells 1
    have z2 := frozen_of hR3.cells 2
    have t0 := cell_of hT3 0
    have q0 := cell_of hQ3 o
    have qz := frozen_of hQ3 o
    rw [ho] at q0
    simp only [List.getElem?_toArray, List.getElem?_cons_zero, List.getElem?_cons_succ] at y2 t0
    have hFb := hFa.trans (hX3.mono (T := [b, Q]) (fun i hi => by simp at hi))
    obtain ⟨pq, hpq⟩ : ∃ pq, quotedBody [] ds = pq := ⟨_, rfl⟩
    obtain rfl : c = 34 := HC.out
    cases pq with
    | ok t r =>
      obtain ⟨e1, e2, e3⟩ := q_good hpq
      have hn := HN.out
      rw [e1] at hn
      have hn2 : n = ((R.size - r.length : Nat) : Int) := by
        have : Value.int IntKind.i64 ((R.size - r.length : Nat) : Int) = Value.int IntKind.i64 n := hn
        injection this with _ h2
        exact h2.symm
      have hkn : k = (34 :: ds).length - r.length := by rw [hRn] at hn2; omega
      rw [← hkn, ← hUl] at e2
      obtain ⟨rfl, rfl⟩ : tv = ⟨t.toArray⟩ ∧ te = 0 := by
        rcases HUC.out with ⟨x, h1, h2, h3⟩ | ⟨h1, _⟩
        · rw [e2] at h1; cases h1; exact ⟨h2, h3⟩
        · rw [e2] at h1; cases h1
      have hnp : n > 0 := by rw [hRn] at hn2; omega
      have hrq : readQuoted l = if t = [] then none else some (t, r) := by
        unfold readQuoted
        rw [HM.out]
        simp only [if_true]
        rw [hpq]
      have HRQ := Lib.hid hrq
      have HE := Lib.hid (And.intro e1 (And.intro hpq hUl))
      have HNN := Lib.hid hn2
      clear hrq e1 hpq hUl hn hn2 e2 hdp hRl
      by_cases ht : t = []
      · subst ht
        have hrn : readQuoted l = none := by rw [HRQ.out, if_pos rfl]
        have HRN := Lib.hid hrn
        clear hrn
        go_wp2_with fail
        exact ⟨rfl, .tuple #[], by simp [results, Tryz.results216, go_sem], HB.out _ hX3 HRN.out⟩
      · have hrs : readQuoted l = some (t, r) := by rw [HRQ.out, if_neg ht]
        have HRN := Lib.hid hrs
        have ht1 : t.isEmpty = false := by cases t with | nil => exact absurd rfl ht | cons _ _ => rfl
        have hsuf : r <:+ 34 :: ds := by
          have h := cutGo_suf HE.out.1
          exact h
        have hn9 : (p : Int) + n = ((s.size - r.length : Nat) : Int) := by
          rw [HNN.out, hRn, ← hp1]
          have := hR3.left.1
          omega
        have hn10 : n ≤ 1024 := by rw [HNN.out]; omega
        have hR4 : Ar 84 (w3.setCell ⟨b, 2, none⟩ (.bool false)) b s (34 :: ds) false := hR3.flag false
        have hQ4 : (w3.setCell ⟨b, 2, none⟩ (.bool false)).heap[Q]? = some (.cells cs TQ (0, 0)) := by rw [heap_setCell_ne hbQ.symm]; exact hQ3
        have hT4 : (w3.setCell ⟨b, 2, none⟩ (.bool false)).heap[H]? = some (.cells #[.pointer (some ⟨Q, o, none⟩)] 118 (0, 0)) := by rw [heap_setCell_ne hbH.symm]; exact hT3
        have hFc : Fr [b, Q] w (w3.setCell ⟨b, 2, none⟩ (.bool false)) := hFb.setCell (.inl (by simp)) _
        have H9 := Lib.hid hn9
        have j2 : (w3.setCell ⟨b, 2, none⟩ (.bool false)).cell? ⟨b, 2, none⟩ = some (.bool false) := by rw [cell_of hR4.cells]; rfl
        clear hrs ht hn9
        go_upto_region 10 with fail
        obtain ⟨w4, hw4⟩ : ∃ w4, w3.setCell ⟨b, 2, none⟩ (.bool false) = w4 := ⟨_, rfl⟩
        rw [hw4] at hR4 hQ4 hT4 hFc ⊢
        clear hw4 y0 y1 y2 z0 z1 z2 t0 q0 qz j2
        have t0 := cell_of hT4 0
        have q0 := cell_of hQ4 o
        have qz := frozen_of hQ4 o
        rw [ho] at q0
        simp only [List.getElem?_toArray, List.getElem?_cons_zero, List.getElem?_cons_succ] at t0
        have hR5 : Ar 84 (w4.setCell ⟨Q, o, none⟩ (.string ⟨t.toArray⟩)) b s (34 :: ds) false := ⟨by rw [heap_setCell_ne hbQ]; exact hR4.cells, hR4.suf, hR4.short⟩
        have hQ5 := heap_setCell hQ4 o (.string ⟨t.toArray⟩)
        have hFd : Fr [b, Q] w (w4.setCell ⟨Q, o, none⟩ (.string ⟨t.toArray⟩)) := hFc.setCell (.inl (by simp)) _
        go_upto_region 11 with fail
        obtain ⟨w5, hw5⟩ : ∃ w5, w4.setCell ⟨Q, o, none⟩ (.string ⟨t.toArray⟩) = w5 := ⟨_, rfl⟩
        rw [hw5] at hR5 hQ5 hFd ⊢
        clear hw5 t0 q0 qz
        have y1 := cell_of hR5.cells 1
        have z1 := frozen_of hR5.cells 1
        simp only [List.getElem?_toArray, List.getElem?_cons_zero, List.getElem?_cons_succ] at y1
        rw [show s.size - (34 :: ds).length = p from hp1] at y1
        go_wp2_with fail
        refine ⟨rfl, .tuple #[], by simp [results, Tryz.results216, go_sem], rfl, hFd.setCell (.inl (by simp)) _, ?_⟩
        rw [show rc = some (t, r) by rw [← HRC.out]; exact HRN.out]
        exact ⟨by rw [heap_setCell_ne hbQ.symm]; exact hQ5, hR5.set hsuf H9.out⟩
    | bad x =>
      have hrn : readQuoted l = none := by
        unfold readQuoted
        rw [HM.out]
        simp only [if_true]
        rw [hpq]
      have HRN := Lib.hid hrn
      have hlow : n < 1 ∨ (1 ≤ n ∧ te = 3) := by
        cases hcg : cutGo 34 false (34 :: ds) with
        | none =>
          have hn := HN.out
          rw [hcg] at hn
          have : Value.int IntKind.i64 (-1) = Value.int IntKind.i64 n := hn
          injection this with _ h2
          exact .inl (by omega)
        | some r' =>
          have hn := HN.out
          rw [hcg] at hn
          have : Value.int IntKind.i64 ((R.size - r'.length : Nat) : Int) = Value.int IntKind.i64 n := hn
          injection this with _ h2
          obtain ⟨a, ha1, ha2⟩ := cut_prefix 34 _ false _ r' (Nat.le_refl _) hcg
          have hal : 1 ≤ a.length := by cases a with | nil => exact absurd rfl ha2 | cons _ _ => simp
          have hrl : (34 :: ds).length = a.length + r'.length := by rw [ha1]; simp
          have hb := q_bad hpq r' hcg
          have hkn : k = (34 :: ds).length - r'.length := by rw [hRn] at h2; omega
          rw [← hkn, ← hUl] at hb
          refine .inr ⟨by rw [hRn] at h2; omega, ?_⟩
          rcases HUC.out with ⟨x, h1, _, _⟩ | ⟨_, _, h3⟩
          · rw [hb] at h1; cases h1
          · exact h3
      clear hrn hpq hUl hdp hRl
      by_cases hwhy : why = 3
      · obtain ⟨r2, hr2, hat⟩ := hform hwhy
        rw [HX.out.2.1] at hr2
        have hsuf := form_suf hr2
        have hXs : X.size = R.size + 3 := by rw [← bytes_len, HX.out.2.1, ← bytes_len, HX.out.2.2]; simp
        have hle := hsuf.length_le
        have hat3 : 3 ≤ at' ∧ at' ≤ 1027 := by omega
        have hat4 : (p : Int) + (at' - 3) = ((s.size - r2.length : Nat) : Int) := by
          have := hR3.left.1
          omega
        have H9 := Lib.hid hat4
        have hR4 : ∀ i, i = ((s.size - r2.length : Nat) : Int) → Ar 84 (w3.setCell ⟨b, 1, none⟩ (.int .i64 i)) b s r2 false := fun i hi => hR3.set hsuf hi
        have HR4 := Lib.hid hR4
        clear hr2 hat hat4 hR4 hform
        have hfin : ToPost b Q o cs TQ s l (Option.map (fun x => (Value.string ⟨x.1.toArray⟩, x.2)) rc) w (.returned (.tuple #[])) ((w3.setCell ⟨b, 1, none⟩ (.int .i64 ((p : Int) + (at' - 3)))).setCell ⟨b, 2, none⟩ (.bool true)) := by
          refine ⟨rfl, (hFb.setCell (.inl (by simp)) _).setCell (.inl (by simp)) _, ?_⟩
          rw [show rc = none by rw [← HRC.out]; exact HRN.out]
          have hR5 := HR4.out _ H9.out
          exact ⟨by rw [heap_setCell_ne hbQ.symm, heap_setCell_ne hbQ.symm]; exact hQ3, _, hR5.suf, hR5.flag true⟩
        have HFIN := Lib.hid hfin
        clear hfin
        subst hwhy
        rcases hlow with hlow | ⟨hlow, rfl⟩
        · go_wp2_with fail
          exact ⟨rfl, .tuple #[], by simp [results, Tryz.results216, go_sem], HFIN.out⟩
        · go_wp2_with fail
          exact ⟨rfl, .tuple #[], by simp [results, Tryz.results216, go_sem], HFIN.out⟩
      · have hw1 : (why == 3) = false := by simpa using hwhy
        clear hwhy hform
        rcases hlow with hlow | ⟨hlow, rfl⟩
        · go_wp2_with fail
          exact ⟨rfl, .tuple #[], by simp [results, Tryz.results216, go_sem], HB.out _ hX3 HRN.out⟩
        · go_wp2_with fail
          exact ⟨rfl, .tuple #[], by simp [results, Tryz.results216, go_sem], HB.out _ hX3 HRN.out⟩
end Go.Proofs.YtdhmloejgoacaaaGreatDoor
