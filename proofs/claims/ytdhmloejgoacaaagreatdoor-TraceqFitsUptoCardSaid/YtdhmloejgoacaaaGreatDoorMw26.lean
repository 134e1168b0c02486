/- traceq.Same. -/
import Derived.Test.YtdhmloejgoacaaaGreatDoorMw25
set_option linter.unusedVariables false
set_option linter.unusedSimpArgs false
namespace Go.Proofs.YtdhmloejgoacaaaGreatDoor
open Go.RowKit Go.Bl Go.Lq Go.Tq

theorem Tq.eq_iff (a b : Tq) : (a = b) ↔ (a.first = b.first ∧ a.second = b.second ∧ a.has = b.has ∧ a.limit = b.limit) := by
  cases a; cases b; simp
set_option maxRecDepth 100000 in
set_option maxHeartbeats 1600000 in
theorem sameQ_any (a b : Tq) (va vb : Value) (w : World) (ha : TqV w va a) (hb : TqV w vb b) (hs : a.first.mat.length ≤ 2000000) (hs2 : a.second.mat.length ≤ 2000000) :
    Calls Tryz.prog 31 #[va, vb] w fun e w' => e = .returned (.bool (decide (a = b))) ∧ Fr [] w w' := by
  obtain ⟨m1, m2, rfl, hm1, hm2⟩ := ha
  obtain ⟨n1, n2, rfl, hn1, hn2⟩ := hb
  obtain ⟨x, hx⟩ : ∃ x, a.has = x := ⟨_, rfl⟩
  obtain ⟨y, hy⟩ : ∃ y, b.has = y := ⟨_, rfl⟩
  obtain ⟨p, hp⟩ : ∃ p, a.limit = p := ⟨_, rfl⟩
  obtain ⟨q, hq⟩ : ∃ q, b.limit = q := ⟨_, rfl⟩
  have hd : decide (a = b) = (decide (a.first = b.first) && (decide (a.second = b.second) && (decide (x = y) && decide (p = q)))) := by
    rw [Bool.eq_iff_iff]
    simp [Tq.eq_iff, hx, hy, hp, hq]
  rw [hd, hx, hy, hp, hq]
  have E1 := fun W (h : Fr [] w W) => sameS_any a.first b.first _ _ W ⟨m1, rfl, hm1.fr h⟩ ⟨n1, rfl, hn1.fr h⟩ hs
  have E2 := fun W (h : Fr [] w W) => sameS_any a.second b.second _ _ W ⟨m2, rfl, hm2.fr h⟩ ⟨n2, rfl, hn2.fr h⟩ hs2
  obtain ⟨u, hu⟩ : ∃ u, decide (a.first = b.first) = u := ⟨_, rfl⟩
  obtain ⟨v, hv⟩ : ∃ v, decide (a.second = b.second) = v := ⟨_, rfl⟩
  rw [hu] at E1 ⊢
  rw [hv] at E2 ⊢
  clear hd hu hv hx hy hp hq hm1 hm2 hn1 hn2
  obtain ⟨H, hH⟩ : ∃ H, w.heap.size = H := ⟨_, rfl⟩
  have hF1 : Fr [] w ((w.alloc (.cells #[.string ⟨a.first.name.toArray⟩, .int .i64 a.first.least, m1, .string ⟨a.second.name.toArray⟩, .int .i64 a.second.least, m2, .int .i64 x, .int .i64 p] 47)).alloc (.cells #[.string ⟨b.first.name.toArray⟩, .int .i64 b.first.least, n1, .string ⟨b.second.name.toArray⟩, .int .i64 b.second.least, n2, .int .i64 y, .int .i64 q] 47)) := ((Fr.refl _ _).alloc _).alloc _
  have hA : ((w.alloc (.cells #[.string ⟨a.first.name.toArray⟩, .int .i64 a.first.least, m1, .string ⟨a.second.name.toArray⟩, .int .i64 a.second.least, m2, .int .i64 x, .int .i64 p] 47)).alloc (.cells #[.string ⟨b.first.name.toArray⟩, .int .i64 b.first.least, n1, .string ⟨b.second.name.toArray⟩, .int .i64 b.second.least, n2, .int .i64 y, .int .i64 q] 47)).heap[H]? = some (.cells #[.string ⟨a.first.name.toArray⟩, .int .i64 a.first.least, m1, .string ⟨a.second.name.toArray⟩, .int .i64 a.second.least, m2, .int .i64 x, .int .i64 p] 47 (0, 0)) := by rw [← hH]; exact Go.Bl.heap_alloc_old (Go.Bl.heap_alloc w _) _
  have hB : ((w.alloc (.cells #[.string ⟨a.first.name.toArray⟩, .int .i64 a.first.least, m1, .string ⟨a.second.name.toArray⟩, .int .i64 a.second.least, m2, .int .i64 x, .int .i64 p] 47)).alloc (.cells #[.string ⟨b.first.name.toArray⟩, .int .i64 b.first.least, n1, .string ⟨b.second.name.toArray⟩, .int .i64 b.second.least, n2, .int .i64 y, .int .i64 q] 47)).heap[H + 1]? = some (.cells #[.string ⟨b.first.name.toArray⟩, .int .i64 b.first.least, n1, .string ⟨b.second.name.toArray⟩, .int .i64 b.second.least, n2, .int .i64 y, .int .i64 q] 47 (0, 0)) := by
    have := Go.Bl.heap_alloc (w.alloc (.cells #[.string ⟨a.first.name.toArray⟩, .int .i64 a.first.least, m1, .string ⟨a.second.name.toArray⟩, .int .i64 a.second.least, m2, .int .i64 x, .int .i64 p] 47)) (.cells #[.string ⟨b.first.name.toArray⟩, .int .i64 b.first.least, n1, .string ⟨b.second.name.toArray⟩, .int .i64 b.second.least, n2, .int .i64 y, .int .i64 q] 47)
    rw [size_alloc', hH] at this
    exact this
  go_enter Tryz.func31, Tryz.ntmps31
  go_upto_region 1 with fail
  obtain ⟨w1, hw1⟩ : ∃ w1, (w.alloc (.cells #[.string ⟨a.first.name.toArray⟩, .int .i64 a.first.least, m1, .string ⟨a.second.name.toArray⟩, .int .i64 a.second.least, m2, .int .i64 x, .int .i64 p] 47)).alloc (.cells #[.string ⟨b.first.name.toArray⟩, .int .i64 b.first.least, n1, .string ⟨b.second.name.toArray⟩, .int .i64 b.second.least, n2, .int .i64 y, .int .i64 q] 47) = w1 := ⟨_, rfl⟩
  rw [hw1] at hF1 hA hB ⊢
  clear hw1
  have c0 : ∀ W, Fr [] w1 W → W.cell? ⟨H, 0, none⟩ = some (.string ⟨a.first.name.toArray⟩) ∧ W.cell? ⟨H + 1, 0, none⟩ = some (.string ⟨b.first.name.toArray⟩) := fun W h => ⟨cell_frS h (cell_of hA 0) (by simp), cell_frS h (cell_of hB 0) (by simp)⟩
  have c1 : ∀ W, Fr [] w1 W → W.cell? ⟨H, 1, none⟩ = some (.int .i64 a.first.least) ∧ W.cell? ⟨H + 1, 1, none⟩ = some (.int .i64 b.first.least) := fun W h => ⟨cell_frS h (cell_of hA 1) (by simp), cell_frS h (cell_of hB 1) (by simp)⟩
  have c2 : ∀ W, Fr [] w1 W → W.cell? ⟨H, 2, none⟩ = some (m1) ∧ W.cell? ⟨H + 1, 2, none⟩ = some (n1) := fun W h => ⟨cell_frS h (cell_of hA 2) (by simp), cell_frS h (cell_of hB 2) (by simp)⟩
  have c3 : ∀ W, Fr [] w1 W → W.cell? ⟨H, 3, none⟩ = some (.string ⟨a.second.name.toArray⟩) ∧ W.cell? ⟨H + 1, 3, none⟩ = some (.string ⟨b.second.name.toArray⟩) := fun W h => ⟨cell_frS h (cell_of hA 3) (by simp), cell_frS h (cell_of hB 3) (by simp)⟩
  have c4 : ∀ W, Fr [] w1 W → W.cell? ⟨H, 4, none⟩ = some (.int .i64 a.second.least) ∧ W.cell? ⟨H + 1, 4, none⟩ = some (.int .i64 b.second.least) := fun W h => ⟨cell_frS h (cell_of hA 4) (by simp), cell_frS h (cell_of hB 4) (by simp)⟩
  have c5 : ∀ W, Fr [] w1 W → W.cell? ⟨H, 5, none⟩ = some (m2) ∧ W.cell? ⟨H + 1, 5, none⟩ = some (n2) := fun W h => ⟨cell_frS h (cell_of hA 5) (by simp), cell_frS h (cell_of hB 5) (by simp)⟩
  have c6 : ∀ W, Fr [] w1 W → W.cell? ⟨H, 6, none⟩ = some (.int .i64 x) ∧ W.cell? ⟨H + 1, 6, none⟩ = some (.int .i64 y) := fun W h => ⟨cell_frS h (cell_of hA 6) (by simp), cell_frS h (cell_of hB 6) (by simp)⟩
  have c7 : ∀ W, Fr [] w1 W → W.cell? ⟨H, 7, none⟩ = some (.int .i64 p) ∧ W.cell? ⟨H + 1, 7, none⟩ = some (.int .i64 q) := fun W h => ⟨cell_frS h (cell_of hA 7) (by simp), cell_frS h (cell_of hB 7) (by simp)⟩
  have HA := Lib.hid (And.intro hA hB)
  clear hA hB
  obtain ⟨d0, d0'⟩ := c0 w1 (Fr.refl _ _)
  obtain ⟨d1, d1'⟩ := c1 w1 (Fr.refl _ _)
  obtain ⟨d2, d2'⟩ := c2 w1 (Fr.refl _ _)
  obtain ⟨d3, d3'⟩ := c3 w1 (Fr.refl _ _)
  obtain ⟨d4, d4'⟩ := c4 w1 (Fr.refl _ _)
  obtain ⟨d5, d5'⟩ := c5 w1 (Fr.refl _ _)
  obtain ⟨d6, d6'⟩ := c6 w1 (Fr.refl _ _)
  obtain ⟨d7, d7'⟩ := c7 w1 (Fr.refl _ _)
  go_wp2_with fail
  refine (E1 _ hF1).mono ?_
  rintro e w2 ⟨rfl, hF2⟩
  clear d0 d1 d2 d3 d4 d5 d6 d7 d0' d1' d2' d3' d4' d5' d6' d7'
  cases u
  · go_wp2_with fail
    go_ret
    exact ⟨by simp, hF1.trans hF2⟩
  · obtain ⟨d3, d3'⟩ := c3 w2 hF2
    obtain ⟨d4, d4'⟩ := c4 w2 hF2
    obtain ⟨d5, d5'⟩ := c5 w2 hF2
    obtain ⟨d6, d6'⟩ := c6 w2 hF2
    obtain ⟨d7, d7'⟩ := c7 w2 hF2
    go_wp2_with fail
    refine (E2 _ (hF1.trans hF2)).mono ?_
    rintro e w3 ⟨rfl, hF3⟩
    clear d3 d4 d5 d6 d7 d3' d4' d5' d6' d7'
    cases v
    · go_wp2_with fail
      go_ret
      exact ⟨by simp, (hF1.trans hF2).trans hF3⟩
    · obtain ⟨d6, d6'⟩ := c6 w3 (hF2.trans hF3)
      obtain ⟨d7, d7'⟩ := c7 w3 (hF2.trans hF3)
      by_cases h1 : x = y
      · subst h1
        have q1 : (x == x) = true := by simp
        by_cases h2 : p = q
        · subst h2
          have q2 : (p == p) = true := by simp
          go_wp2_with fail
          go_ret
          exact ⟨by simp, (hF1.trans hF2).trans hF3⟩
        · have q2 : (p == q) = false := by simpa using h2
          go_wp2_with fail
          go_ret
          exact ⟨by simp [h2], (hF1.trans hF2).trans hF3⟩
      · have q1 : (x == y) = false := by simpa using h1
        go_wp2_with fail
        go_ret
        exact ⟨by simp [h1], (hF1.trans hF2).trans hF3⟩
end Go.Proofs.YtdhmloejgoacaaaGreatDoor
namespace Go.Proofs.YtdhmloejgoacaaaGreatDoor
open Go.RowKit Go.Bl Go.Lq Go.Tq

theorem atoi_gen {d : Bs} (hl : d.length ≤ 65536) {w : World} (hE : GE w ∨ ∃ v, Lib.atoiAll d = .ok v) :
    Calls Tryz.prog 100 #[.string ⟨d.toArray⟩] w fun e w' => ∃ n ev, e = .returned (.tuple #[.int .i64 n, ev]) ∧ Fr [] w w' ∧ ((ev = .nilIface ∧ (d.all isDigit = true → n = (numOf d : Int))) ∨ ((∃ t v, ev = .iface t v) ∧ (d.all isDigit = true → d = [] ∨ 9223372036854775808 ≤ numOf d))) := by
  have hs : (ByteArray.mk d.toArray).size = d.length := by simp [ByteArray.size]
  have hdl : (ByteArray.mk d.toArray).data.toList = d := rfl
  rcases hh : Lib.atoiAll d with v | _ | _
  all_goals first
    | (refine (Any.strconv_Atoi_ok Tryz.laysC172 ⟨d.toArray⟩ (by omega) _ (by rw [hdl]; exact hh) w).mono ?_
       rintro e w' ⟨rfl, hw⟩
       refine ⟨_, _, rfl, ?_, .inl ⟨rfl, ?_⟩⟩
       · rcases hw with rfl | ⟨t, rfl⟩
         · exact Fr.refl _ _
         · exact fr_new (Lib.bytesWorld_below _ _ _) _
       · intro hd
         rcases atoi_digits hd with ⟨h0, h⟩ | ⟨h0, h⟩ | ⟨h0, h, h2⟩
         · rw [h0] at hh; cases hh
         · rw [h] at hh; cases hh; rfl
         · rw [h] at hh; cases hh)
    | (obtain ⟨ev0, hv, hev⟩ := (hE.resolve_right (by rintro ⟨v, h⟩; rw [h] at hh; cases hh)).syn
       refine (Any.strconv_Atoi_syntax Tryz.laysC172 ⟨d.toArray⟩ (by omega) (by rw [hdl]; exact hh) ev0 w hv hev).mono ?_
       rintro e w' ⟨N, rfl, _, _, hb⟩
       refine ⟨_, _, rfl, fr_new hb _, .inr ⟨⟨_, _, rfl⟩, ?_⟩⟩
       intro hd
       rcases atoi_digits hd with ⟨h0, h⟩ | ⟨h0, h⟩ | ⟨h0, h, h2⟩
       · exact .inl h0
       · rw [h] at hh; cases hh
       · rw [h] at hh; cases hh)
    | (obtain ⟨ev0, hv, hev⟩ := (hE.resolve_right (by rintro ⟨v, h⟩; rw [h] at hh; cases hh)).ran
       refine (Any.strconv_Atoi_range Tryz.laysC172 ⟨d.toArray⟩ (by omega) (by rw [hdl]; exact hh) ev0 w hv hev).mono ?_
       rintro e w' ⟨N, rfl, _, _, hb⟩
       refine ⟨_, _, rfl, fr_new hb _, .inr ⟨⟨_, _, rfl⟩, ?_⟩⟩
       intro hd
       rcases atoi_digits hd with ⟨h0, h⟩ | ⟨h0, h⟩ | ⟨h0, h, h2⟩
       · rw [h0] at hh; cases hh
       · rw [h] at hh; cases hh
       · exact .inr h2)
/-- A reading thing whose target is the cell o of block Q: done with v, r left; or it can not go on. -/
def ToPost (b Q o : Nat) (cs : Array Value) (TQ : Nat) (s : ByteArray) (l : Bs) (res : Option (Value × Bs)) (w : World) (e : Ending) (w' : World) : Prop :=
  e = .returned (.tuple #[]) ∧ Fr [b, Q] w w' ∧ match res with
    | some (v, r) => w'.heap[Q]? = some (.cells (cs.setIfInBounds o v) TQ (0, 0)) ∧ Ar 84 w' b s r false
    | none => w'.heap[Q]? = some (.cells cs TQ (0, 0)) ∧ ∃ r, r <:+ s.data.toList ∧ Ar 84 w' b s r true
theorem fr2 {b Q : Nat} {w w' : World} (h : Fr [b] w w') : Fr [b, Q] w w' := h.mono fun i hi => .inl (by simp_all)
theorem count_plain (l : Bs) (n : Int) (hn : (wordL l).all isDigit = true → n = (numOf (wordL l) : Int)) :
    ((1 ≤ n ∧ n ≤ 1000 ∧ digs n.toNat = wordL l) → readCount l = some (n, (skipL l).drop (wordL l).length)) ∧ (¬ (1 ≤ n ∧ n ≤ 1000 ∧ digs n.toNat = wordL l) → readCount l = none) := by
  unfold readCount
  constructor
  · rintro ⟨h1, h2, h3⟩
    obtain ⟨d1, d2, d3, d4⟩ := digs_spec n.toNat
    rw [h3] at d1 d2 d3
    have hnn := hn d1
    have hk : (numOf (wordL l) : Int) = n := hnn.symm
    rw [if_pos ⟨d3, d1, by omega, by omega, by rw [show numOf (wordL l) = n.toNat by omega]; exact h3⟩, hk]
  · intro h
    rw [if_neg]
    rintro ⟨h1, h2, h3, h4, h5⟩
    have hnn := hn h2
    apply h
    refine ⟨by omega, by omega, ?_⟩
    rw [hnn, Int.toNat_natCast]
    exact h5
theorem count_err (l : Bs) (h : (wordL l).all isDigit = true → wordL l = [] ∨ 9223372036854775808 ≤ numOf (wordL l)) : readCount l = none := by
  unfold readCount
  rw [if_neg]
  rintro ⟨h1, h2, h3, h4, h5⟩
  rcases h h2 with h6 | h6
  · exact h1 h6
  · omega
set_option maxRecDepth 100000 in
set_option maxHeartbeats 1600000 in
theorem countRead_any (b Q o : Nat) (cs : Array Value) (TQ : Nat) (s : ByteArray) (l : Bs) (w : World) (h : Ar 84 w b s l false) (hG : GV w) (hE : GE w ∨ ∃ v, Lib.atoiAll (wordL l) = .ok v) (hb8 : 8 ≤ b) (hQ8 : 8 ≤ Q)
    (hQ : w.heap[Q]? = some (.cells cs TQ (0, 0))) (hbQ : b ≠ Q) (v0 : Value) (ho : cs[o]? = some v0) :
    Calls Tryz.prog 215 #[.agg #[.pointer (some ⟨Q, o, none⟩)], .pointer (some ⟨b, 0, none⟩)] w (ToPost b Q o cs TQ s l ((readCount l).map fun x => (.int .i64 x.1, x.2)) w) := by
  have h8 : 8 ≤ w.heap.size := by have := lt_of_obj hQ; omega
  obtain ⟨rc, hrc⟩ : ∃ rc, readCount l = rc := ⟨_, rfl⟩
  rw [hrc]
  have HRC := Lib.hid hrc
  clear hrc
  have hF0 : Fr [] w (w.alloc (.cells #[.pointer (some ⟨Q, o, none⟩)] 92)) := (Fr.refl _ _).alloc _
  have hR0 := h.fr hF0 (by simp)
  have hQ0 := hF0.obj hQ (by simp)
  have hG0 := hG.frn hF0 h8
  have hT0 := Go.Bl.heap_alloc w (.cells #[.pointer (some ⟨Q, o, none⟩)] 92)
  obtain ⟨H, hH⟩ : ∃ H, w.heap.size = H := ⟨_, rfl⟩
  have hbH : b ≠ H := by have := lt_of_obj h.cells; omega
  rw [hH] at hT0
  go_enter Tryz.func215, Tryz.ntmps215
  go_upto_region 1 with fail
  obtain ⟨w0, hw0⟩ : ∃ w0, w.alloc (.cells #[.pointer (some ⟨Q, o, none⟩)] 92) = w0 := ⟨_, rfl⟩
  rw [hw0] at hF0 hR0 hQ0 hG0 hT0 ⊢
  clear hw0
  have h80 := Nat.le_trans h8 hF0.size
  go_wp2_with fail
  refine (word_any b s l false _ hR0).mono ?_
  rintro e w1 ⟨rfl, hR1, hF1⟩
  have hG1 := hG0.below (hF1.below (B := 8) h80 (by simp; exact hb8)) (Nat.le_refl _)
  have hE1 : GE w1 ∨ ∃ v, Lib.atoiAll (wordL l) = .ok v := hE.imp_left (fun h => (h.below (hF0.below (B := 8) h8 (by simp)) (Nat.le_refl _)).below (hF1.below (B := 8) h80 (by simp; exact hb8)) (Nat.le_refl _))
  have hT1 := hF1.obj hT0 (by simpa using hbH.symm)
  have hQ1 := hF1.obj hQ0 (by simpa using hbQ.symm)
  have hwl : (wordL l).length ≤ 65536 := by
    have h1 := (wordL_pre l).length_le
    have h2 := hR1.left.1
    have h3 := hR1.short
    omega
  obtain ⟨W, hW⟩ : ∃ W : Bs, wordL l = W := ⟨_, rfl⟩
  rw [hW] at hwl hE1 ⊢
  go_wp2_with fail
  refine (atoi_gen hwl hE1).mono ?_
  rintro e w2 ⟨n, ev, rfl, hF2, hcase⟩
  have hR2 := hR1.fr hF2 (by simp)
  have hQ2 := hF2.obj hQ1 (by simp)
  have hT2 := hF2.obj hT1 (by simp)
  have hG2 := hG1.below (hF2.below (B := 8) (Nat.le_trans h80 hF1.size) (by simp)) (Nat.le_refl _)
  have hFa : Fr [b, Q] w w2 := (fr2 ((hF0.mono (T := [b]) (fun i hi => by simp at hi)).trans hF1)).trans (hF2.mono (fun i hi => by simp at hi))
  have j1 := cell_of hR2.cells 1
  have j2 := cell_of hR2.cells 2
  have y1 := frozen_of hR2.cells 1
  have y2 := frozen_of hR2.cells 2
  have t0 := cell_of hT2 0
  have q0 := cell_of hQ2 o
  have qz := frozen_of hQ2 o
  rw [ho] at q0
  simp only [List.getElem?_toArray, List.getElem?_cons_zero, List.getElem?_cons_succ] at j1 j2 t0
  have hbad : ∀ w3, Fr [] w2 w3 → readCount l = none → ToPost b Q o cs TQ s l (Option.map (fun x => (Value.int IntKind.i64 x.fst, x.snd)) rc) w (.returned (.tuple #[])) (w3.setCell ⟨b, 2, none⟩ (.bool true)) := by
    intro w3 hF3 hn
    refine ⟨rfl, (hFa.trans (hF3.mono (fun i hi => by simp at hi))).setCell (.inl (by simp)) _, ?_⟩
    rw [show rc = none by rw [← HRC.out]; exact hn]
    have hR3 := hR2.fr hF3 (by simp)
    exact ⟨by rw [heap_setCell_ne hbQ.symm]; exact hF3.obj hQ2 (by simp), _, hR3.suf, hR3.flag true⟩
  have HB := Lib.hid hbad
  clear hbad
  rcases hcase with ⟨rfl, hn⟩ | ⟨⟨tt, vv, rfl⟩, hn⟩
  · have hp := count_plain l n (by rw [hW]; exact hn)
    rw [hW] at hp
    have HPL := Lib.hid hp
    clear hp hn
    by_cases h1 : n < 1
    · go_wp2_with fail
      exact ⟨rfl, .tuple #[], by simp [results, Tryz.results215, go_sem], HB.out _ (Fr.refl _ _) (HPL.out.2 (by omega))⟩
    by_cases h2 : n > 1000
    · go_wp2_with fail
      exact ⟨rfl, .tuple #[], by simp [results, Tryz.results215, go_sem], HB.out _ (Fr.refl _ _) (HPL.out.2 (by omega))⟩
    go_wp2_with fail
    refine (itoa_any (n := n) (by omega) (by omega) hG2).mono ?_
    rintro e w3 ⟨rfl, hF3⟩
    obtain ⟨D, hD⟩ : ∃ D, digs n.toNat = D := ⟨_, rfl⟩
    rw [hD]
    have HD := Lib.hid hD
    clear hD j1 j2 y1 y2 t0 q0 qz
    have hR3 := hR2.fr hF3 (by simp)
    have hQ3 := hF3.obj hQ2 (by simp)
    have hT3 := hF3.obj hT2 (by simp)
    have j1 := cell_of hR3.cells 1
    have j2 := cell_of hR3.cells 2
    have y1 := frozen_of hR3.cells 1
    have y2 := frozen_of hR3.cells 2
    have t0 := cell_of hT3 0
    have q0 := cell_of hQ3 o
    have qz := frozen_of hQ3 o
    rw [ho] at q0
    simp only [List.getElem?_toArray, List.getElem?_cons_zero, List.getElem?_cons_succ] at j1 j2 t0
    by_cases hDW : D = W
    · subst hDW
      have hrc : readCount l = some (n, (skipL l).drop D.length) := by
        have := HPL.out.1 ⟨by omega, by omega, HD.out⟩
        exact this
      have hR4 : Ar 84 (w3.setCell ⟨Q, o, none⟩ (.int .i64 n)) b s (skipL l) false := ⟨by rw [heap_setCell_ne hbQ]; exact hR3.cells, hR3.suf, hR3.short⟩
      have hQ4 := heap_setCell hQ3 o (.int .i64 n)
      have hpl := (wordL_pre l).length_le
      rw [hW] at hpl
      have hXs : (ByteArray.mk D.toArray).size = D.length := by simp [ByteArray.size]
      have hne : (⟨b, 1, none⟩ : Addr) ≠ ⟨Q, o, none⟩ := by simp [hbQ]
      have HRQ := Lib.hid hrc
      have hlq := hR3.left.1
      have hsh := hR3.short
      clear hrc
      go_upto_region 6 with fail
      obtain ⟨w4, hw4⟩ : ∃ w4, w3.setCell ⟨Q, o, none⟩ (.int .i64 n) = w4 := ⟨_, rfl⟩
      have hF4 : Fr [b, Q] w w4 := by rw [← hw4]; exact (hFa.trans (hF3.mono (fun i hi => by simp at hi))).setCell (.inl (by simp)) _
      rw [hw4] at hR4 hQ4 ⊢
      clear hw4 j1 j2 y1 y2 t0 q0 qz
      have j1 := cell_of hR4.cells 1
      have y1 := frozen_of hR4.cells 1
      simp only [List.getElem?_toArray, List.getElem?_cons_zero, List.getElem?_cons_succ] at j1
      go_wp2_with fail
      refine ⟨rfl, .tuple #[], by simp [results, Tryz.results215, go_sem], rfl, hF4.setCell (.inl (by simp)) _, ?_⟩
      rw [show rc = some (n, (skipL l).drop D.length) by rw [← HRC.out]; exact HRQ.out]
      refine ⟨by rw [heap_setCell_ne hbQ.symm]; exact hQ4, hR4.set (List.drop_suffix _ _) ?_⟩
      rw [List.length_drop]
      omega
    · have hne : (D == W) = false := by simpa using hDW
      have hrn : readCount l = none := HPL.out.2 (by rintro ⟨_, _, h3⟩; exact hDW (by rw [← HD.out]; exact h3))
      go_wp2_with fail
      exact ⟨rfl, .tuple #[], by simp [results, Tryz.results215, go_sem], HB.out _ hF3 hrn⟩
  · go_wp2_with fail
    exact ⟨rfl, .tuple #[], by simp [results, Tryz.results215, go_sem], HB.out _ (Fr.refl _ _) (count_err l (by rw [hW]; exact hn))⟩
end Go.Proofs.YtdhmloejgoacaaaGreatDoor
