/- QuotaApart: the walk. -/
import Derived.Test.YtoichcjlfpijeaaCopyW2
import Derived.Test.YtoichcjlfpijeaaAsks
namespace Go.Proofs.Ytoichcjlfpijeaa
open Go.RowKit Go.Bl

theorem step_apart (U : ByteArray → Option Bk) (n : Nat) (o : QOp) (s : ByteArray) (h : o.name ≠ s) : stepT U n o s = U s := by
  have e : ¬ s = o.name := fun e => h e.symm
  have hs : ∀ b, setT U o.name b s = U s := fun b => by unfold setT; rw [if_neg e]
  unfold stepT
  split
  · unfold setS; split
    · exact hs _
    · rfl
  split
  · unfold takeT; split
    · exact hs _
    · rfl
  split
  · unfold giveT; split
    · exact hs _
    · rfl
  split
  · unfold fillT; split
    · exact hs _
    · rfl
  split
  · unfold fillT; split
    · exact hs _
    · rfl
  split
  · exact hs _
  · rfl

theorem cnt_same {T U : ByteArray → Option Bk} {s : ByteArray} (h : U s = T s) : cntE U s = cntE T s ∧ cntV U s = cntV T s := by
  unfold cntE cntV; rw [h]; exact ⟨rfl, rfl⟩
theorem tok_same {T U : ByteArray → Option Bk} {s : ByteArray} (h : U s = T s) (now : Int) : tokE U s now = tokE T s now ∧ tokV U s now = tokV T s now := by
  unfold tokE tokV; rw [h]; exact ⟨rfl, rfl⟩

def PRelA (c : Nat) (T : ByteArray → Option Bk) (name : ByteArray) (w : World) (lv iv : Value) (wr : World) : Prop :=
  ∃ (k : Nat) (last : Int) (U : ByteArray → Option Bk) (n : Nat) (F : List Nat), lv = .int .i64 last ∧ iv = .int .i64 k ∧ k ≤ 50 ∧ -9223372036854775808 ≤ last ∧ last ≤ 9223372036854775807 ∧ Tab wr c U n F ∧ U name = T name ∧ Fr [] w wr ∧ (∀ i ∈ F, w.heap.size ≤ i)

theorem prela_next {c rr : Nat} {T U : ByteArray → Option Bk} {nU k : Nat} {name : ByteArray} {o : QOp} {w1 wr W w3 w4 : World} {F : List Nat} {last : Int} (hk : k < 50) (hl0 : -9223372036854775808 ≤ last) (hl1 : last ≤ 9223372036854775807)
    (hG : Fr [] w1 wr) (hW : Fr [] wr W) (hU : U name = T name) (hne : o.name ≠ name) (hBF : ∀ i ∈ F, w1.heap.size ≤ i) (hrr : wr.heap.size ≤ rr) {U0 : ByteArray → Option Bk}
    (hL : Left2 W w3 c rr (stepT U nU o) (stepN U nU o) (stepT U0 0 o) (stepN U0 0 o) F [rr]) (h4 : Fr [] w3 w4) :
    PRelA c T name w1 (.int .i64 last) (.int .i64 ((k : Int) + 1)) w4 := by
  obtain ⟨F2, G2, hb2, hF2, hG2⟩ := hL.ex
  have z0 := hG.size
  have z1 := hW.size
  have a2 : Fr [] w1 w3 := (hG.trans hW).new hL.fr fun i hi => by
    rcases List.mem_append.1 hi with h | h
    · exact hBF i h
    · simp at h; omega
  refine ⟨k + 1, last, _, _, F2, rfl, by go_num, by omega, hl0, hl1, hb2.tab.fr h4 (fun _ _ => by simp), ?_, a2.trans h4, fun i hi => ?_⟩
  · rw [step_apart _ _ _ _ hne]; exact hU
  · rcases hF2 i hi with h | h
    · exact hBF i h
    · omega

set_option maxRecDepth 100000 in
set_option maxHeartbeats 8000000 in
theorem apart_any (A : Option Addr) (len cap : Nat) (l : Nat → QOp) (name : ByteArray) (B : Option Addr) (mlen mcap : Nat) (m : Nat → QOp) (w : World) (hl : OpsAt w A len l) (hm : OpsAt w B mlen m) :
    Calls Try.prog 8 #[.slice A len cap, .string name, .slice B mlen mcap] w fun e w' => e = .returned (.bool true) ∧ Fr [] w w' := by
  have HL := Lib.hid hl
  have HM := Lib.hid hm
  have hmax := hm.max
  clear hl hm
  go_enter Try.func8, Try.ntmps8
  go_wp2_with fail
  refine (played_any A len cap l w HL.out).mono ?_
  rintro e w1 ⟨t, r, F, G, rfl, hb, hF1, hBF, hBG⟩
  have HB := Lib.hid hb.tab
  clear hb
  obtain ⟨T, hT⟩ : ∃ T, (play l (upTo len)).1 = T := ⟨_, rfl⟩
  obtain ⟨n, hn⟩ : ∃ n, (play l (upTo len)).2 = n := ⟨_, rfl⟩
  rw [hT, hn] at HB
  clear hT hn
  go_wp2_with fail
  refine (copy_any HB.out).mono ?_
  rintro e w2 ⟨c, nc, Fc, rfl, hC, hF2, hBC⟩
  have H0 : Hid (PRelA c T name w1 (.int .i64 0) (.int .i64 0) w2) := ⟨0, 0, T, nc, Fc, rfl, rfl, by omega, by omega, by omega, hC, rfl, hF2, hBC⟩
  clear hC
  go_wp2_with fail
  go_loopw [11, 12] (fun lv iv wr => PRelA c T name w1 lv iv wr) (fun _ i _ => 50 - (intOf i).toNat)
  case atStart => exact H0.out
  case round =>
    clear H0
    obtain ⟨k, last, U, nU, Fk, rfl, rfl, hk, hl0, hl1, hU, hUT, hG, hBk⟩ := hrel
    have HU := Lib.hid hU
    have HUT := Lib.hid hUT
    clear hU hUT
    by_cases hgo : k < mlen ∧ (k : Int) < 50
    · obtain ⟨hlt, h50⟩ := hgo
      obtain ⟨ad, rfl, c0, c1, c2, c3, c4, c5⟩ := (HM.out.fr (hF1.trans hG)).op k hlt
      have hsp := World.cell?_spot c0
      have hnow := HM.out.nows k hlt
      by_cases q1 : (m k).name.toList = name.toList
      · go_wp2_with fail
        all_goals exact ⟨⟨k + 1, _, U, nU, Fk, rfl, by go_num, by omega, by omega, by omega, HU.out, HUT.out, hG, hBk⟩, by simp [intOf]; omega⟩
      · by_cases q2 : (m k).kind = 8
        · go_wp2_with fail
          all_goals exact ⟨⟨k + 1, _, U, nU, Fk, rfl, by go_num, by omega, by omega, by omega, HU.out, HUT.out, hG, hBk⟩, by simp [intOf]; omega⟩
        · have HQ : Hid ((m k).name ≠ name) := fun e => q1 (by rw [e])
          have q3 : ((m k).kind != 8) = true := by simpa using q2
          have q4 : ((m k).name.toList == name.toList) = false := by simpa using q1
          have nb : (ad.add (k * 6)).block < w.heap.size := by
            obtain ⟨ad3, hq3, k0, _⟩ := HM.out.op k hlt
            obtain rfl : ad = ad3 := by cases hq3; rfl
            exact World.block_lt_of_cell? _ _ k0
          have hfa : Fr [] wr (wr.alloc (.cells #[.slice none 0 0] 41)) := (Fr.refl [] wr).alloc _
          have z1 := hF1.size
          have z2 := hG.size
          have nF : (ad.add (k * 6)).block ∉ Fk ++ [wr.heap.size] := fun hm => by
            rcases List.mem_append.1 hm with h | h
            · have := hBk _ h; omega
            · simp only [List.mem_singleton] at h; omega
          have e0 := cell_fr hfa c0 (by simp)
          have e1 := cell_fr hfa c1 (by simp)
          have e2 := cell_fr hfa c2 (by simp)
          have e3 := cell_fr hfa c3 (by simp)
          have e4 := cell_fr hfa c4 (by simp)
          have e5 := cell_fr hfa c5 (by simp)
          have HFA := Lib.hid hfa
          clear hfa
          have HB2 : Hid (Both (wr.alloc (.cells #[.slice none 0 0] 41)) c wr.heap.size U nU T0 0 Fk [wr.heap.size]) := ⟨HU.out.fr HFA.out (fun _ _ => by simp), rtab_new wr, fun i hi hm => by have := HU.out.lt i hi; simp at hm; omega⟩
          go_wp2_with fail
          refine (step_any HB2.out (m k)).mono ?_
          rintro e w3 ⟨⟨b, rfl, _⟩, hL⟩
          have HL2 := Lib.hid hL
          have f1 := cell_fr hL.fr e5 nF
          clear hL e0 e1 e2 e3 e4 e5 c0 c1 c2 c3 c4 c5
          go_wp2_with fail
          all_goals exact ⟨prela_next (by omega) (by omega) (by omega) hG HFA.out HUT.out HQ.out hBk (Nat.le_refl _) HL2.out (by repeat (first | with_reducible exact Fr.refl _ _ | with_reducible refine Fr.drew ?_ | with_reducible refine Fr.drewN ?_ _)), by simp [intOf]; omega⟩
    · have hx : mlen ≤ k ∨ (k < mlen ∧ 50 ≤ (k : Int)) := by omega
      clear hgo
      have z1 := hF1.size
      have HTt := Lib.hid (HB.out.fr hG (fun _ _ => by simp))
      have hap : ∀ i ∈ F, i ∉ Fk := fun i hi hm => by have := HB.out.lt i hi; have := hBk i hm; omega
      have HC1 := Lib.hid (cnt_any HTt.out name)
      have HG1 := Lib.hid (hF1.trans hG)
      rcases hx with hx | ⟨hx, hy⟩
      all_goals
        go_wp2_with fail
        refine HC1.out.mono ?_
        rintro e w3 ⟨rfl, hT3, hF3⟩
        have hV3 := HU.out.fr (hF3.alloc (.cells #[.int .i64 (cntV T name).1, .int .i64 (cntV T name).2.1, .int .i64 (cntV T name).2.2] 43)) (fun _ _ => by simp)
        have HT3 := Lib.hid (hT3.fr ((Fr.refl [] w3).alloc (.cells #[.int .i64 (cntV T name).1, .int .i64 (cntV T name).2.1, .int .i64 (cntV T name).2.2] 43)) (fun _ _ => by simp))
        have hc2 := cnt_any hV3 name
        rw [(cnt_same HUT.out).1, (cnt_same HUT.out).2] at hc2
        have HC2 := Lib.hid hc2
        clear hc2 hT3 hV3
        go_wp2_with fail
        refine HC2.out.mono ?_
        rintro e w4 ⟨rfl, hV4, hF4⟩
        have HT4 := Lib.hid (HT3.out.fr (hF4.alloc (.cells #[.int .i64 (cntV T name).1, .int .i64 (cntV T name).2.1, .int .i64 (cntV T name).2.2] 43)) (fun _ _ => by simp))
        have HV4 := Lib.hid (hV4.fr ((Fr.refl [] w4).alloc (.cells #[.int .i64 (cntV T name).1, .int .i64 (cntV T name).2.1, .int .i64 (cntV T name).2.2] 43)) (fun _ _ => by simp))
        clear hV4
        go_wp2_with fail
        refine (tok_any HT4.out name last).mono ?_
        rintro e w5 ⟨rfl, hT5, hF5⟩
        have hc3 := tok_any (HV4.out.fr hF5 (fun i hi hm => hap i hm hi)) name last
        rw [(tok_same HUT.out _).1, (tok_same HUT.out _).2] at hc3
        have HC3 := Lib.hid hc3
        clear hc3 hT5
        go_wp2_with fail
        refine HC3.out.mono ?_
        rintro e w6 ⟨rfl, hV6, hF6⟩
        have z3 := hF3.size
        have z4 := hF4.size
        rw [size_alloc'] at z4
        have y14 := hF6.obj (hF5.obj ((hF4.alloc (.cells #[.int .i64 (cntV T name).1, .int .i64 (cntV T name).2.1, .int .i64 (cntV T name).2.2] 43)).obj (heap_alloc w3 (.cells #[.int .i64 (cntV T name).1, .int .i64 (cntV T name).2.1, .int .i64 (cntV T name).2.2] 43)) (by simp)) (fun hm => by have := HTt.out.lt _ hm; omega)) (fun hm => by have := HU.out.lt _ hm; omega)
        have y16 := hF6.obj (hF5.obj (heap_alloc w4 (.cells #[.int .i64 (cntV T name).1, .int .i64 (cntV T name).2.1, .int .i64 (cntV T name).2.2] 43)) (fun hm => by have := HTt.out.lt _ hm; omega)) (fun hm => by have := HU.out.lt _ hm; omega)
        have v0 := cell_of y14 0
        have v1 := cell_of y14 1
        have v2 := cell_of y14 2
        have u0 := cell_of y16 0
        have u1 := cell_of y16 1
        have u2 := cell_of y16 2
        have HEN : Hid (Fr [] w w6) := (((HG1.out.trans (hF3.alloc _)).trans (hF4.alloc _)).new hF5 hBF).new hF6 (fun i hi => by have := hBk i hi; omega)
        clear hV6 y14 y16
        go_wp2_with (go_at_call 12; refine (known_any _).mono ?_; rintro e w7 ⟨rfl, hF7⟩)
        go_ret
        exact ⟨rfl, HEN.out.trans hF7⟩
end Go.Proofs.Ytoichcjlfpijeaa
