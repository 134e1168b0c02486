/- QuotaAsks: the walk. -/
import Derived.Test.YtoichcjlfpijeaaPlayed
import Derived.Test.YtoichcjlfpijeaaQAsksPure
namespace Go.Proofs.Ytoichcjlfpijeaa
open Go.RowKit Go.Bl

/-- A slice of numbers that came in. -/
structure AsksAt (w : World) (A : Option Addr) (len : Nat) (a : Nat → Int) : Prop where
  max : len ≤ 9223372036854775807
  at_ : ∀ i, i < len → ∃ ad, A = some ad ∧ w.cell? (ad.add i) = some (.int .i64 (a i))
theorem AsksAt.fr {w w' : World} {A : Option Addr} {len : Nat} {a : Nat → Int} (h : AsksAt w A len a) (hF : Fr [] w w') : AsksAt w' A len a :=
  ⟨h.max, fun i hi => by
    obtain ⟨ad, e, h0⟩ := h.at_ i hi
    exact ⟨ad, e, cell_fr hF h0 (by simp)⟩⟩

def AOut (l : Nat → QOp) (u len : Nat) (w1 : World) (nv iv : Value) (wr : World) : Prop :=
  ∃ (k : Nat) (now : Int) (U : ByteArray → Option Bk) (F : List Nat), nv = .int .i64 now ∧ iv = .int .i64 k ∧ k ≤ upTo len ∧ 0 ≤ now ∧ now ≤ 1125899906842624 ∧ Tab wr u U (play l k).2 F ∧ ARel now (play l k).1 U ∧ Fr [] w1 wr ∧ (∀ i ∈ F, w1.heap.size ≤ i)

def AIn (u n : Nat) (T : ByteArray → Option Bk) (now : Int) (F : List Nat) (X : World) (iv : Value) (wr : World) : Prop :=
  ∃ (j : Nat) (U : ByteArray → Option Bk), iv = .int .i64 j ∧ j ≤ 5 ∧ Tab wr u U n F ∧ ARel now T U ∧ Fr F X wr

def AEnd (t u : Nat) (now : Int) (w : World) (iv : Value) (wr : World) : Prop :=
  ∃ (j : Nat) (T U : ByteArray → Option Bk) (n : Nat) (F E : List Nat), iv = .int .i64 j ∧ j ≤ 200 ∧ Tab wr t T n F ∧ Tab wr u U n E ∧ ARel now T U ∧ Fr [] w wr ∧ (∀ i ∈ F, w.heap.size ≤ i) ∧ (∀ i ∈ E, w.heap.size ≤ i) ∧ (∀ i ∈ F, i ∉ E)

theorem aout_next {l : Nat → QOp} {u len k : Nat} {w1 wr X wi W w3 w4 : World} {U U0 : ByteArray → Option Bk} {F : List Nat} {rr : Nat} (hk : k < upTo len) (hn0 : 0 ≤ (l k).now) (hn1 : (l k).now ≤ 1125899906842624)
    (hG : Fr [] w1 wr) (hX : Fr [] wr X) (hI : Fr F X wi) (hW : Fr [] wi W) (hR : ARel (l k).now (play l k).1 U) (hBF : ∀ i ∈ F, w1.heap.size ≤ i) (hrr : wi.heap.size ≤ rr)
    (hL : Left2 W w3 u rr (stepT U (play l k).2 (l k)) (stepN U (play l k).2 (l k)) (stepT U0 0 (l k)) (stepN U0 0 (l k)) F [rr]) (h4 : Fr [] w3 w4) :
    AOut l u len w1 (.int .i64 (l k).now) (.int .i64 ((k : Int) + 1)) w4 := by
  obtain ⟨F2, G2, hb2, hF2, hG2⟩ := hL.ex
  have z0 := hG.size
  have z1 := hX.size
  have z2 := hI.size
  have z3 := hW.size
  have s := hR.step (n := (play l k).2) (l k)
  rw [s.2] at hb2
  have a1 : Fr [] w1 W := (((hG.trans hX).new hI hBF)).trans hW
  have a2 : Fr [] w1 w3 := a1.new hL.fr fun i hi => by
    rcases List.mem_append.1 hi with h | h
    · exact hBF i h
    · simp at h; omega
  refine ⟨k + 1, (l k).now, _, F2, rfl, by go_num, hk, hn0, hn1, hb2.tab.fr h4 (fun _ _ => by simp), s.1, a2.trans h4, fun i hi => ?_⟩
  rcases hF2 i hi with h | h
  · exact hBF i h
  · omega

set_option maxRecDepth 100000 in
set_option maxHeartbeats 8000000 in
theorem asks_any (A : Option Addr) (len cap : Nat) (l : Nat → QOp) (B : Option Addr) (alen acap : Nat) (a : Nat → Int) (w : World) (hl : OpsAt w A len l) (ha : AsksAt w B alen a) :
    Calls Try.prog 4 #[.slice A len cap, .slice B alen acap] w fun e w' => e = .returned (.bool true) ∧ Fr [] w w' := by
  have HL := Lib.hid hl
  have HA := Lib.hid ha
  have hmax := hl.max
  have amax := ha.max
  clear hl ha
  go_enter Try.func4, Try.ntmps4
  go_wp2_with fail
  refine (played_any A len cap l w HL.out).mono ?_
  rintro e w1 ⟨t, r, F, G, rfl, hb, hF1, hBF, hBG⟩
  have HB := Lib.hid hb
  clear hb
  go_wp2_with fail
  refine (new_tab w1).mono ?_
  rintro e w2 ⟨hF2, u, F0, rfl, hU, hB2⟩
  have H0 : Hid (AOut l u len w1 (.int .i64 0) (.int .i64 0) w2) := ⟨0, 0, T0, F0, rfl, rfl, Nat.zero_le _, by decide, by decide, hU, ARel.refl _ _, hF2, hB2⟩
  clear hF2 hU hB2
  go_wp2_with fail
  go_loopw [9, 10] (fun nv iv wr => AOut l u len w1 nv iv wr) (fun _ i _ => len - (intOf i).toNat)
  case atStart => exact H0.out
  case round =>
    clear H0
    obtain ⟨k, now, U, F', rfl, rfl, hk, hn0, hn1, hU, hR, hG, hBF'⟩ := hrel
    have HU := Lib.hid hU
    have HR := Lib.hid hR
    clear hU hR
    by_cases hlt : k < len
    · by_cases h200 : (k : Int) < 200
      · obtain ⟨ad, rfl, c0, c1, c2, c3, c4, c5⟩ := (HL.out.fr (hF1.trans hG)).op k hlt
        have hsp := World.cell?_spot c0
        have nW : wr.heap.size ∉ F' := fun hm => by have := HU.out.lt _ hm; omega
        have hx := heap_alloc wr (.cells #[.int .i64 (l k).kind, .string (l k).name, .int .i64 (l k).rate, .int .i64 (l k).burst, .int .i64 (l k).cost, .int .i64 (l k).now] 29)
        have HX := Lib.hid hx
        have HFX : Hid (Fr [] wr (wr.alloc (.cells #[.int .i64 (l k).kind, .string (l k).name, .int .i64 (l k).rate, .int .i64 (l k).burst, .int .i64 (l k).cost, .int .i64 (l k).now] 29))) := ((Fr.refl [] wr).alloc _)
        clear hx
        by_cases q1 : (l k).now < now
        · go_wp2_with (go_at_call 12; refine (known_any _).mono ?_; rintro e w3 ⟨rfl, hF3⟩)
          go_ret
          exact ⟨rfl, (hF1.trans hG).trans ((Fr.alloc (Fr.refl _ _) _).trans hF3)⟩
        · by_cases q2 : 1125899906842624 < (l k).now
          · go_wp2_with (go_at_call 12; refine (known_any _).mono ?_; rintro e w3 ⟨rfl, hF3⟩)
            go_ret
            exact ⟨rfl, (hF1.trans hG).trans ((Fr.alloc (Fr.refl _ _) _).trans hF3)⟩
          · go_wp2_with fail
            go_loopw [12] (fun iv wi => AIn u (play l k).2 (play l k).1 (l k).now F' (wr.alloc (.cells #[.int .i64 (l k).kind, .string (l k).name, .int .i64 (l k).rate, .int .i64 (l k).burst, .int .i64 (l k).cost, .int .i64 (l k).now] 29)) iv wi) (fun i _ => 5 - (intOf i).toNat)
            case atStart => exact ⟨0, U, rfl, by omega, HU.out.fr HFX.out (fun _ _ => by simp), HR.out.later (by omega), Fr.refl _ _⟩
            case round =>
              obtain ⟨j, V, rfl, hj5, hV, hRV, hI⟩ := hrel
              have HV := Lib.hid hV
              have HRV := Lib.hid hRV
              clear hV hRV
              have hx := hI.obj HX.out nW
              have d0 := cell_of hx 0
              have d1 := cell_of hx 1
              have d2 := cell_of hx 2
              have d3 := cell_of hx 3
              have d4 := cell_of hx 4
              have d5 := cell_of hx 5
              have hX2 := Lib.hid hx
              clear hx
              by_cases jl : j < alen
              · by_cases j5 : (j : Int) < 5
                · obtain ⟨bd, rfl, b0⟩ := (HA.out.fr (hF1.trans ((hG.trans HFX.out).new hI hBF'))).at_ j jl
                  by_cases p1 : now ≤ a j
                  · by_cases p2 : a j ≤ (l k).now
                    · go_wp2_with fail
                      go_quiet (fail)
                      go_wp2_with fail
                      go_region_with (go_at_call 15; refine (tok_any (HV.out.fr ((Fr.refl [] _).drewN _) (fun _ _ => by simp)) (l k).name (a j)).mono ?_; rintro e w3 ⟨rfl, hT3, hF3⟩)
                      all_goals
                        have HIN : Hid (∀ {w4 : World}, Fr [] w3 w4 → AIn u (play l k).2 (play l k).1 (l k).now F' _ (.int .i64 ((j : Int) + 1)) w4) := fun {w4} h4 => ⟨j + 1, _, by go_num, by omega, hT3.fr h4 (fun _ _ => by simp), HRV.out.ask HV.out.ok _ _ p2, (hI.trans (Fr.of_drewN hF3)).trans (h4.mono (by simp))⟩
                        clear hT3 hF3
                        go_wp2_with fail
                        exact ⟨HIN.out (by repeat (first | with_reducible exact Fr.refl _ _ | with_reducible refine Fr.drew ?_ | with_reducible refine Fr.drewN ?_ _)), by simp [intOf]; omega⟩
                    · have HIN : Hid (∀ {w4 : World}, Fr [] wr w4 → AIn u (play l k).2 (play l k).1 (l k).now F' _ (.int .i64 ((j : Int) + 1)) w4) := fun {w4} h4 => ⟨j + 1, V, by go_num, by omega, HV.out.fr h4 (fun _ _ => by simp), HRV.out, hI.trans (h4.mono (by simp))⟩
                      go_wp2_with fail
                      go_quiet (fail)
                      go_wp2_with fail
                      exact ⟨HIN.out (by repeat (first | with_reducible exact Fr.refl _ _ | with_reducible refine Fr.drew ?_ | with_reducible refine Fr.drewN ?_ _)), by simp [intOf]; omega⟩
                  · have p3 : decide (now ≤ a j) = false := by simpa using p1
                    have p4 : a j < now := by omega
                    have HIN : Hid (∀ {w4 : World}, Fr [] wr w4 → AIn u (play l k).2 (play l k).1 (l k).now F' _ (.int .i64 ((j : Int) + 1)) w4) := fun {w4} h4 => ⟨j + 1, V, by go_num, by omega, HV.out.fr h4 (fun _ _ => by simp), HRV.out, hI.trans (h4.mono (by simp))⟩
                    go_wp2_with fail
                    go_quiet (fail)
                    go_wp2_with fail
                    exact ⟨HIN.out (by repeat (first | with_reducible exact Fr.refl _ _ | with_reducible refine Fr.drew ?_ | with_reducible refine Fr.drewN ?_ _)), by simp [intOf]; omega⟩
                · have HO : Hid (∀ {w3 w4 : World}, Left2 (wr.alloc (.cells #[.slice none 0 0] 41)) w3 u wr.heap.size (stepT V (play l k).2 (l k)) (stepN V (play l k).2 (l k)) (stepT T0 0 (l k)) (stepN T0 0 (l k)) F' [wr.heap.size] → Fr [] w3 w4 → AOut l u len w1 (.int .i64 (l k).now) (.int .i64 ((k : Int) + 1)) w4) := fun {w3 w4} hL h4 => aout_next (by unfold upTo; split <;> omega) (by omega) (by omega) hG HFX.out hI ((Fr.refl [] wr).alloc _) HRV.out hBF' (Nat.le_refl _) hL h4
                  have e0 := cell_fr ((Fr.refl [] wr).alloc (.cells #[.slice none 0 0] 41)) d0 (by simp)
                  have e1 := cell_fr ((Fr.refl [] wr).alloc (.cells #[.slice none 0 0] 41)) d1 (by simp)
                  have e2 := cell_fr ((Fr.refl [] wr).alloc (.cells #[.slice none 0 0] 41)) d2 (by simp)
                  have e3 := cell_fr ((Fr.refl [] wr).alloc (.cells #[.slice none 0 0] 41)) d3 (by simp)
                  have e4 := cell_fr ((Fr.refl [] wr).alloc (.cells #[.slice none 0 0] 41)) d4 (by simp)
                  have e5 := cell_fr ((Fr.refl [] wr).alloc (.cells #[.slice none 0 0] 41)) d5 (by simp)
                  have HB2 : Hid (Both (wr.alloc (.cells #[.slice none 0 0] 41)) u wr.heap.size V (play l k).2 T0 0 F' [wr.heap.size]) := ⟨HV.out.fr ((Fr.refl [] wr).alloc _) (fun _ _ => by simp), rtab_new wr, fun i hi hm => by have := HV.out.lt i hi; simp at hm; omega⟩
                  go_wp2_with fail
                  refine (step_any HB2.out (l k)).mono ?_
                  rintro e w3 ⟨⟨b, rfl, _⟩, hL⟩
                  have HL2 := Lib.hid hL
                  clear hL
                  go_wp2_with fail
                  exact ⟨HO.out HL2.out (by repeat (first | with_reducible exact Fr.refl _ _ | with_reducible refine Fr.drew ?_ | with_reducible refine Fr.drewN ?_ _)), by simp [intOf]; omega⟩
              · have HO : Hid (∀ {w3 w4 : World}, Left2 (wr.alloc (.cells #[.slice none 0 0] 41)) w3 u wr.heap.size (stepT V (play l k).2 (l k)) (stepN V (play l k).2 (l k)) (stepT T0 0 (l k)) (stepN T0 0 (l k)) F' [wr.heap.size] → Fr [] w3 w4 → AOut l u len w1 (.int .i64 (l k).now) (.int .i64 ((k : Int) + 1)) w4) := fun {w3 w4} hL h4 => aout_next (by unfold upTo; split <;> omega) (by omega) (by omega) hG HFX.out hI ((Fr.refl [] wr).alloc _) HRV.out hBF' (Nat.le_refl _) hL h4
                have e0 := cell_fr ((Fr.refl [] wr).alloc (.cells #[.slice none 0 0] 41)) d0 (by simp)
                have e1 := cell_fr ((Fr.refl [] wr).alloc (.cells #[.slice none 0 0] 41)) d1 (by simp)
                have e2 := cell_fr ((Fr.refl [] wr).alloc (.cells #[.slice none 0 0] 41)) d2 (by simp)
                have e3 := cell_fr ((Fr.refl [] wr).alloc (.cells #[.slice none 0 0] 41)) d3 (by simp)
                have e4 := cell_fr ((Fr.refl [] wr).alloc (.cells #[.slice none 0 0] 41)) d4 (by simp)
                have e5 := cell_fr ((Fr.refl [] wr).alloc (.cells #[.slice none 0 0] 41)) d5 (by simp)
                have HB2 : Hid (Both (wr.alloc (.cells #[.slice none 0 0] 41)) u wr.heap.size V (play l k).2 T0 0 F' [wr.heap.size]) := ⟨HV.out.fr ((Fr.refl [] wr).alloc _) (fun _ _ => by simp), rtab_new wr, fun i hi hm => by have := HV.out.lt i hi; simp at hm; omega⟩
                go_wp2_with fail
                refine (step_any HB2.out (l k)).mono ?_
                rintro e w3 ⟨⟨b, rfl, _⟩, hL⟩
                have HL2 := Lib.hid hL
                clear hL
                go_wp2_with fail
                exact ⟨HO.out HL2.out (by repeat (first | with_reducible exact Fr.refl _ _ | with_reducible refine Fr.drew ?_ | with_reducible refine Fr.drewN ?_ _)), by simp [intOf]; omega⟩
      · have hke : k = upTo len := by unfold upTo at hk ⊢; split at hk <;> split <;> omega
        subst hke
        have HE : Hid (AEnd t u now w (.int .i64 0) wr) := ⟨0, _, U, _, F, F', rfl, by omega, HB.out.tab.fr hG (fun _ _ => by simp), HU.out, HR.out, hF1.trans hG, hBF, fun i hi => by have := hBF' i hi; have := hF1.size; omega, fun i hi hm => by have := HB.out.tab.lt i hi; have := hBF' i hm; omega⟩
        go_wp2_with fail
        go_loopw [13] (fun iv wi => AEnd t u now w iv wi) (fun i _ => 200 - (intOf i).toNat)
        case atStart => exact HE.out
        case round =>
          clear HE
          obtain ⟨j, T, V, n, F1, E1, rfl, hj, hT, hV, hRV, hG1, hb1, hb2, hap⟩ := hrel
          by_cases jl : j < len
          · by_cases j2 : (j : Int) < 200
            · obtain ⟨ad2, hq, c0, c1, c2, c3, c4, c5⟩ := (HL.out.fr hG1).op j jl
              have nb1 : (ad2.add (j * 6)).block < w.heap.size := by
                obtain ⟨ad3, hq3, k0, _⟩ := HL.out.op j jl
                obtain rfl : ad2 = ad3 := by rw [hq] at hq3; cases hq3; rfl
                exact World.block_lt_of_cell? _ _ k0
              cases hq
              have nF : (ad2.add (j * 6)).block ∉ F1 := fun hm => by have := hb1 _ hm; omega
              have nE : (ad2.add (j * 6)).block ∉ E1 := fun hm => by have := hb2 _ hm; omega
              clear c0 c2 c3 c4 c5
              have HTV := Lib.hid (And.intro hT hV)
              have HC1 := Lib.hid (cnt_any hT (l j).name)
              clear hT hV
              go_wp2_with fail
              refine HC1.out.mono ?_
              rintro e w3 ⟨rfl, hT3, hF3⟩
              have x1 := cell_fr (hF3.alloc (.cells #[.int .i64 (cntV T (l j).name).1, .int .i64 (cntV T (l j).name).2.1, .int .i64 (cntV T (l j).name).2.2] 43)) c1 (by simp)
              have hV3 := HTV.out.2.fr (hF3.alloc (.cells #[.int .i64 (cntV T (l j).name).1, .int .i64 (cntV T (l j).name).2.1, .int .i64 (cntV T (l j).name).2.2] 43)) (fun _ _ => by simp)
              have HT3 := Lib.hid (hT3.fr ((Fr.refl [] w3).alloc (.cells #[.int .i64 (cntV T (l j).name).1, .int .i64 (cntV T (l j).name).2.1, .int .i64 (cntV T (l j).name).2.2] 43)) (fun _ _ => by simp))
              have hc2 := cnt_any hV3 (l j).name
              rw [(hRV.cnt _).1, (hRV.cnt _).2] at hc2
              have HC2 := Lib.hid hc2
              clear hc2 hT3 hV3
              go_wp2_with fail
              refine HC2.out.mono ?_
              rintro e w4 ⟨rfl, hV4, hF4⟩
              have x2 := cell_fr (hF4.alloc (.cells #[.int .i64 (cntV T (l j).name).1, .int .i64 (cntV T (l j).name).2.1, .int .i64 (cntV T (l j).name).2.2] 43)) x1 (by simp)
              have HT4 := Lib.hid (HT3.out.fr (hF4.alloc (.cells #[.int .i64 (cntV T (l j).name).1, .int .i64 (cntV T (l j).name).2.1, .int .i64 (cntV T (l j).name).2.2] 43)) (fun _ _ => by simp))
              have HV4 := Lib.hid (hV4.fr ((Fr.refl [] w4).alloc (.cells #[.int .i64 (cntV T (l j).name).1, .int .i64 (cntV T (l j).name).2.1, .int .i64 (cntV T (l j).name).2.2] 43)) (fun _ _ => by simp))
              clear hV4
              go_wp2_with fail
              refine (tok_any HT4.out (l j).name now).mono ?_
              rintro e w5 ⟨rfl, hT5, hF5⟩
              have x3 := cell_fr hF5 x2 nF
              have HT5 := Lib.hid hT5
              have hc3 := tok_any (HV4.out.fr hF5 (fun i hi hm => hap i hm hi)) (l j).name now
              rw [(hRV.tok _).1, (hRV.tok _).2] at hc3
              have HC3 := Lib.hid hc3
              clear hc3 hT5
              go_wp2_with fail
              refine HC3.out.mono ?_
              rintro e w6 ⟨rfl, hV6, hF6⟩
              have z3 := hF3.size
              have z4 := hF4.size
              rw [size_alloc'] at z4
              have y14 := hF6.obj (hF5.obj ((hF4.alloc (.cells #[.int .i64 (cntV T (l j).name).1, .int .i64 (cntV T (l j).name).2.1, .int .i64 (cntV T (l j).name).2.2] 43)).obj (heap_alloc w3 (.cells #[.int .i64 (cntV T (l j).name).1, .int .i64 (cntV T (l j).name).2.1, .int .i64 (cntV T (l j).name).2.2] 43)) (by simp)) (fun hm => by have := HTV.out.1.lt _ hm; omega)) (fun hm => by have := HTV.out.2.lt _ hm; omega)
              have y16 := hF6.obj (hF5.obj (heap_alloc w4 (.cells #[.int .i64 (cntV T (l j).name).1, .int .i64 (cntV T (l j).name).2.1, .int .i64 (cntV T (l j).name).2.2] 43)) (fun hm => by have := HTV.out.1.lt _ hm; omega)) (fun hm => by have := HTV.out.2.lt _ hm; omega)
              have v0 := cell_of y14 0
              have v1 := cell_of y14 1
              have v2 := cell_of y14 2
              have u0 := cell_of y16 0
              have u1 := cell_of y16 1
              have u2 := cell_of y16 2
              have HEN : Hid (∀ {w7 : World}, Fr [] w6 w7 → AEnd t u now w (.int .i64 ((j : Int) + 1)) w7) := fun {w7} h7 => ⟨j + 1, _, _, n, F1, E1, by go_num, by omega, (HT5.out.fr hF6 hap).fr h7 (fun _ _ => by simp), hV6.fr h7 (fun _ _ => by simp), hRV.fill2 _, ((((hG1.trans (hF3.alloc _)).trans (hF4.alloc _)).new hF5 hb1).new hF6 hb2).trans h7, hb1, hb2, hap⟩
              clear hV6 y14 y16
              go_wp2_with fail
              exact ⟨HEN.out (by repeat (first | with_reducible exact Fr.refl _ _ | with_reducible refine Fr.drew ?_ | with_reducible refine Fr.drewN ?_ _)), by simp [intOf]; omega⟩
            · go_wp2_with (go_at_call 12; refine (known_any _).mono ?_; rintro e w3 ⟨rfl, hF3⟩)
              go_ret
              exact ⟨rfl, hG1.trans hF3⟩
          · go_wp2_with (go_at_call 12; refine (known_any _).mono ?_; rintro e w3 ⟨rfl, hF3⟩)
            go_ret
            exact ⟨rfl, hG1.trans hF3⟩
    · have hke : k = upTo len := by unfold upTo at hk ⊢; split at hk <;> split <;> omega
      subst hke
      have HE : Hid (AEnd t u now w (.int .i64 0) wr) := ⟨0, _, U, _, F, F', rfl, by omega, HB.out.tab.fr hG (fun _ _ => by simp), HU.out, HR.out, hF1.trans hG, hBF, fun i hi => by have := hBF' i hi; have := hF1.size; omega, fun i hi hm => by have := HB.out.tab.lt i hi; have := hBF' i hm; omega⟩
      go_wp2_with fail
      go_loopw [13] (fun iv wi => AEnd t u now w iv wi) (fun i _ => 200 - (intOf i).toNat)
      case atStart => exact HE.out
      case round =>
        clear HE
        obtain ⟨j, T, V, n, F1, E1, rfl, hj, hT, hV, hRV, hG1, hb1, hb2, hap⟩ := hrel
        by_cases jl : j < len
        · by_cases j2 : (j : Int) < 200
          · obtain ⟨ad2, hq, c0, c1, c2, c3, c4, c5⟩ := (HL.out.fr hG1).op j jl
            have nb1 : (ad2.add (j * 6)).block < w.heap.size := by
              obtain ⟨ad3, hq3, k0, _⟩ := HL.out.op j jl
              obtain rfl : ad2 = ad3 := by rw [hq] at hq3; cases hq3; rfl
              exact World.block_lt_of_cell? _ _ k0
            cases hq
            have nF : (ad2.add (j * 6)).block ∉ F1 := fun hm => by have := hb1 _ hm; omega
            have nE : (ad2.add (j * 6)).block ∉ E1 := fun hm => by have := hb2 _ hm; omega
            clear c0 c2 c3 c4 c5
            have HTV := Lib.hid (And.intro hT hV)
            have HC1 := Lib.hid (cnt_any hT (l j).name)
            clear hT hV
            go_wp2_with fail
            refine HC1.out.mono ?_
            rintro e w3 ⟨rfl, hT3, hF3⟩
            have x1 := cell_fr (hF3.alloc (.cells #[.int .i64 (cntV T (l j).name).1, .int .i64 (cntV T (l j).name).2.1, .int .i64 (cntV T (l j).name).2.2] 43)) c1 (by simp)
            have hV3 := HTV.out.2.fr (hF3.alloc (.cells #[.int .i64 (cntV T (l j).name).1, .int .i64 (cntV T (l j).name).2.1, .int .i64 (cntV T (l j).name).2.2] 43)) (fun _ _ => by simp)
            have HT3 := Lib.hid (hT3.fr ((Fr.refl [] w3).alloc (.cells #[.int .i64 (cntV T (l j).name).1, .int .i64 (cntV T (l j).name).2.1, .int .i64 (cntV T (l j).name).2.2] 43)) (fun _ _ => by simp))
            have hc2 := cnt_any hV3 (l j).name
            rw [(hRV.cnt _).1, (hRV.cnt _).2] at hc2
            have HC2 := Lib.hid hc2
            clear hc2 hT3 hV3
            go_wp2_with fail
            refine HC2.out.mono ?_
            rintro e w4 ⟨rfl, hV4, hF4⟩
            have x2 := cell_fr (hF4.alloc (.cells #[.int .i64 (cntV T (l j).name).1, .int .i64 (cntV T (l j).name).2.1, .int .i64 (cntV T (l j).name).2.2] 43)) x1 (by simp)
            have HT4 := Lib.hid (HT3.out.fr (hF4.alloc (.cells #[.int .i64 (cntV T (l j).name).1, .int .i64 (cntV T (l j).name).2.1, .int .i64 (cntV T (l j).name).2.2] 43)) (fun _ _ => by simp))
            have HV4 := Lib.hid (hV4.fr ((Fr.refl [] w4).alloc (.cells #[.int .i64 (cntV T (l j).name).1, .int .i64 (cntV T (l j).name).2.1, .int .i64 (cntV T (l j).name).2.2] 43)) (fun _ _ => by simp))
            clear hV4
            go_wp2_with fail
            refine (tok_any HT4.out (l j).name now).mono ?_
            rintro e w5 ⟨rfl, hT5, hF5⟩
            have x3 := cell_fr hF5 x2 nF
            have HT5 := Lib.hid hT5
            have hc3 := tok_any (HV4.out.fr hF5 (fun i hi hm => hap i hm hi)) (l j).name now
            rw [(hRV.tok _).1, (hRV.tok _).2] at hc3
            have HC3 := Lib.hid hc3
            clear hc3 hT5
            go_wp2_with fail
            refine HC3.out.mono ?_
            rintro e w6 ⟨rfl, hV6, hF6⟩
            have z3 := hF3.size
            have z4 := hF4.size
            rw [size_alloc'] at z4
            have y14 := hF6.obj (hF5.obj ((hF4.alloc (.cells #[.int .i64 (cntV T (l j).name).1, .int .i64 (cntV T (l j).name).2.1, .int .i64 (cntV T (l j).name).2.2] 43)).obj (heap_alloc w3 (.cells #[.int .i64 (cntV T (l j).name).1, .int .i64 (cntV T (l j).name).2.1, .int .i64 (cntV T (l j).name).2.2] 43)) (by simp)) (fun hm => by have := HTV.out.1.lt _ hm; omega)) (fun hm => by have := HTV.out.2.lt _ hm; omega)
            have y16 := hF6.obj (hF5.obj (heap_alloc w4 (.cells #[.int .i64 (cntV T (l j).name).1, .int .i64 (cntV T (l j).name).2.1, .int .i64 (cntV T (l j).name).2.2] 43)) (fun hm => by have := HTV.out.1.lt _ hm; omega)) (fun hm => by have := HTV.out.2.lt _ hm; omega)
            have v0 := cell_of y14 0
            have v1 := cell_of y14 1
            have v2 := cell_of y14 2
            have u0 := cell_of y16 0
            have u1 := cell_of y16 1
            have u2 := cell_of y16 2
            have HEN : Hid (∀ {w7 : World}, Fr [] w6 w7 → AEnd t u now w (.int .i64 ((j : Int) + 1)) w7) := fun {w7} h7 => ⟨j + 1, _, _, n, F1, E1, by go_num, by omega, (HT5.out.fr hF6 hap).fr h7 (fun _ _ => by simp), hV6.fr h7 (fun _ _ => by simp), hRV.fill2 _, ((((hG1.trans (hF3.alloc _)).trans (hF4.alloc _)).new hF5 hb1).new hF6 hb2).trans h7, hb1, hb2, hap⟩
            clear hV6 y14 y16
            go_wp2_with fail
            exact ⟨HEN.out (by repeat (first | with_reducible exact Fr.refl _ _ | with_reducible refine Fr.drew ?_ | with_reducible refine Fr.drewN ?_ _)), by simp [intOf]; omega⟩
          · go_wp2_with (go_at_call 12; refine (known_any _).mono ?_; rintro e w3 ⟨rfl, hF3⟩)
            go_ret
            exact ⟨rfl, hG1.trans hF3⟩
        · go_wp2_with (go_at_call 12; refine (known_any _).mono ?_; rintro e w3 ⟨rfl, hF3⟩)
          go_ret
          exact ⟨rfl, hG1.trans hF3⟩
end Go.Proofs.Ytoichcjlfpijeaa
