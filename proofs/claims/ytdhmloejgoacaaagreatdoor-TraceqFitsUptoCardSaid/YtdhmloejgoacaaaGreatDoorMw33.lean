/- Matchers of a query are read. -/
import Derived.Test.YtdhmloejgoacaaaGreatDoorTqBraces
import Derived.Test.YtdhmloejgoacaaaGreatDoorMw29
set_option linter.unusedVariables false
set_option linter.unusedSimpArgs false
namespace Go.Proofs.YtdhmloejgoacaaaGreatDoor
open Go.RowKit Go.Bl Go.Lq Go.Tq

/-- No two texts side by side: a block of such cells holds no matcher. -/
def NoMt (cs : Array Value) : Prop := ∀ (i : Nat) (a t : ByteArray), cs[i]? = some (.string a) → cs[i + 1]? ≠ some (.string t)
theorem MtAt.block {w : World} {ad : Addr} {m : Mt} {k : Nat} {cs : Array Value} {T : TypeId} {fr : Nat × Nat} (h : MtAt w ad m) (hk : w.heap[k]? = some (.cells cs T fr)) (hn : NoMt cs) : ad.block ≠ k := by
  rintro rfl
  obtain ⟨_, h1, h2⟩ := h
  rw [cell_of hk] at h1 h2
  exact hn _ _ _ h1 h2
theorem MtAt.frS {S : List Nat} {w w' : World} {ad : Addr} {m : Mt} (h : MtAt w ad m) (hF : Fr S w w') (hb : ad.block ∉ S) : MtAt w' ad m :=
  ⟨cell_frS hF h.1 hb, cell_frS hF h.2.1 hb, cell_frS hF h.2.2 hb⟩
theorem add_blockT (ad : Addr) (j : Nat) : (ad.add j).block = ad.block := by unfold Addr.add; split <;> rfl
/-- The matchers stay where blocks change that hold none. -/
theorem Mts.keepS {S : List Nat} {w w' : World} {v : Value} {l : List Mt} (h : Mts w v l) (hF : Fr S w w') (hS : ∀ k ∈ S, ∃ cs T fr, w.heap[k]? = some (.cells cs T fr) ∧ NoMt cs) : Mts w' v l := by
  obtain ⟨A, cap, e, hl, hx⟩ := h
  refine ⟨A, cap, e, hl, fun i hi => ?_⟩
  obtain ⟨ad, ha, hm⟩ := hx i hi
  refine ⟨ad, ha, hm.frS hF fun hk => ?_⟩
  obtain ⟨cs, T, fr, h1, h2⟩ := hS _ hk
  exact hm.block h1 h2 rfl
theorem NoMt.reader (s : ByteArray) (i : Int) (d : Bool) : NoMt #[.string s, .int .i64 i, .bool d] := by
  intro k a t h1 h2
  match k, h1, h2 with
  | 0, _, h2 => cases h2
  | 1, h1, _ => cases h1
  | 2, h1, _ => cases h1
/-- As ToPost, of matchers: the target holds a slice of them. -/
def MatPost (b Q o : Nat) (cs : Array Value) (TQ : Nat) (s : ByteArray) (res : Option (List Mt × Bs)) (w : World) (e : Ending) (w' : World) : Prop :=
  e = .returned (.tuple #[]) ∧ Fr [b, Q] w w' ∧ match res with
    | some (ms, r) => ∃ v, Mts w' v ms ∧ w'.heap[Q]? = some (.cells (cs.setIfInBounds o v) TQ (0, 0)) ∧ Ar 84 w' b s r false
    | none => w'.heap[Q]? = some (.cells cs TQ (0, 0)) ∧ ∃ r, r <:+ s.data.toList ∧ Ar 84 w' b s r true
set_option maxRecDepth 100000 in
set_option maxHeartbeats 2000000 in
theorem matRead_any (b Q o : Nat) (cs : Array Value) (TQ : Nat) (s : ByteArray) (l : Bs) (hhd : (skipL l).head? = some 123) (w : World) (h : Ar 84 w b s l false) (hs : s.size ≤ 1024) (hG : GV w) (hb8 : 8 ≤ b) (hQ8 : 8 ≤ Q)
    (hQ : w.heap[Q]? = some (.cells cs TQ (0, 0))) (hbQ : b ≠ Q) (v0 : Value) (ho : cs[o]? = some v0) (hno : NoMt cs) :
    Calls Tryz.prog 239 #[.agg #[.pointer (some ⟨Q, o, none⟩)], .pointer (some ⟨b, 0, none⟩)] w (MatPost b Q o cs TQ s (readMatchers l) w) := by
  have h8 : 8 ≤ w.heap.size := by have := lt_of_obj hQ; omega
  have hF0 : Fr [] w (w.alloc (.cells #[.pointer (some ⟨Q, o, none⟩)] 124)) := (Fr.refl _ _).alloc _
  have hR0 := h.fr hF0 (by simp)
  have hQ0 := hF0.obj hQ (by simp)
  have hG0 := hG.frn hF0 h8
  have hT0 := Go.Bl.heap_alloc w (.cells #[.pointer (some ⟨Q, o, none⟩)] 124)
  obtain ⟨H, hH⟩ : ∃ H, w.heap.size = H := ⟨_, rfl⟩
  have hbH : b ≠ H := by have := lt_of_obj h.cells; omega
  rw [hH] at hT0
  go_enter Tryz.func239, Tryz.ntmps239
  go_upto_region 1 with fail
  obtain ⟨w0, hw0⟩ : ∃ w0, w.alloc (.cells #[.pointer (some ⟨Q, o, none⟩)] 124) = w0 := ⟨_, rfl⟩
  rw [hw0] at hF0 hR0 hQ0 hG0 hT0 ⊢
  clear hw0
  have h80 := Nat.le_trans h8 hF0.size
  go_wp2_with fail
  refine (word_any b s l false _ hR0).mono ?_
  rintro e w1 ⟨rfl, hR1, hF1⟩
  have hG1 := hG0.below (hF1.below (B := 8) h80 (by simp; exact hb8)) (Nat.le_refl _)
  have hT1 := hF1.obj hT0 (by simpa using hbH.symm)
  have hQ1 := hF1.obj hQ0 (by simpa using hbQ.symm)
  have h81 := Nat.le_trans h80 hF1.size
  have hFa : Fr [b, Q] w w1 := (fr2 ((hF0.mono (T := [b]) (fun i hi => by simp at hi)).trans hF1))
  obtain ⟨m, hm⟩ : ∃ m, skipL l = m := ⟨_, rfl⟩
  rw [hm] at hR1 hhd
  have hrm : readMatchers l = match matchL m with
    | .ok ms r => if ms = [] then none else some (ms, r)
    | .bad _ => none := by
    unfold readMatchers
    rw [hm]
    rfl
  have HM := Lib.hid hm
  have HRM := Lib.hid hrm
  clear hm hrm hT0 hQ0 hG0 hR0
  obtain ⟨c, ds, rfl⟩ : ∃ c ds, m = c :: ds := by
    cases m with
    | nil => cases hhd
    | cons c ds => exact ⟨c, ds, rfl⟩
  obtain rfl : c = 123 := by simpa using hhd
  obtain ⟨p, hp1, hp2, hp3, hp4⟩ := hR1.at
  have k0 := cell_of hR1.cells 0
  have k1 := cell_of hR1.cells 1
  have k2 := cell_of hR1.cells 2
  simp only [List.getElem?_toArray, List.getElem?_cons_zero, List.getElem?_cons_succ] at k0 k1 k2
  rw [show s.size - (123 :: ds).length = p from hp1] at k1
  obtain ⟨R, hRx⟩ : ∃ R : ByteArray, s.extract p s.size = R := ⟨_, rfl⟩
  have hRl : R.data.toList = 123 :: ds := by
    rw [← hRx, ← hp1]
    exact hR1.left.2
  have hRz : R.size ≤ 1024 := by
    rw [← bytes_len, hRl]
    have := hR1.left.1
    omega
  have hRn : R.size = s.size - p := by rw [← hRx]; simp
  have g4 : p ≤ s.size := by omega
  have hbr : ∀ W, Fr [] w1 W → Calls Tryz.prog 240 #[.string R] W (fun e w' => ∃ v n ok, e = .returned (.tuple #[v, .int .i64 n, .bool ok]) ∧ Fr [] W w' ∧
      ((ok = true ∧ ∃ ms r, matchL (123 :: ds) = .ok ms r ∧ n = ((R.size - r.length : Nat) : Int) ∧ Mts w' v ms) ∨ (ok = false ∧ readMatchers l = none ∧ ∃ r, n = ((R.size - r.length : Nat) : Int) ∧ r <:+ 123 :: ds))) := by
    intro W hW
    refine (braces_any R ds hRl hRz W (hG1.frn hW h81) (Nat.le_trans h81 hW.size)).mono ?_
    rintro e w' ⟨hF, hx⟩
    cases hmm : matchL (123 :: ds) with
    | ok ms r =>
      rw [hmm] at hx
      obtain ⟨v, rfl, hM⟩ := hx
      exact ⟨v, _, true, rfl, hF, .inl ⟨rfl, ms, r, rfl, rfl, hM⟩⟩
    | bad r0 =>
      rw [hmm] at hx
      obtain ⟨v, r, rfl, hsuf⟩ := hx
      exact ⟨v, _, false, rfl, hF, .inr ⟨rfl, by rw [HRM.out, hmm], r, rfl, hsuf⟩⟩
  have HRa := Lib.hid hR1
  have HX := Lib.hid (And.intro hRl hRn)
  clear hRl hRn
  go_wp2_with fail
  go_region_held3 (fun w' => w'.cell? ⟨b, 0, none⟩ = some (.string s) ∧ w'.cell? ⟨b, 1, none⟩ = some (.int .i64 (p : Int)) ∧ Fr [] w1 w') (exact ar2 HRa.out hp1 (by (repeat (first | with_reducible exact Fr.refl _ _ | assumption | with_reducible refine Fr.drew ?_ | with_reducible refine Fr.drewN ?_ _)))) (first | (go_at_call 240; (try rw [hRx]); refine (hbr _ (by (repeat (first | with_reducible exact Fr.refl _ _ | assumption | with_reducible refine Fr.drew ?_ | with_reducible refine Fr.drewN ?_ _)))).mono ?_; rintro e w2 ⟨v, n, ok, rfl, hF2, hres⟩; have hX : Fr [] w1 w2 := Fr.trans (by (repeat (first | with_reducible exact Fr.refl _ _ | assumption | with_reducible refine Fr.drew ?_ | with_reducible refine Fr.drewN ?_ _))) hF2))
  rename_i hh
  obtain ⟨y0, y1, y3⟩ := hh
  clear hX hF2 hbr k0 k1 k2
  have hR3 := HRa.out.fr y3 (by simp)
  have hQ3 := y3.obj hQ1 (by simp)
  have hT3 := y3.obj hT1 (by simp)
  have y2 := cell_of hR3.cells 2
  have z1 := frozen_of hR3.cells 1
  have z2 := frozen_of hR3.cells 2
  have t0 := cell_of hT3 0
  have q0 := cell_of hQ3 o
  have qz := frozen_of hQ3 o
  rw [ho] at q0
  simp only [List.getElem?_toArray, List.getElem?_cons_zero, List.getElem?_cons_succ] at y2 t0
  have hFb := hFa.trans (y3.mono (T := [b, Q]) (fun i hi => by simp at hi))
  have hst := hR3.left.1
  have hne : (⟨b, 2, none⟩ : Addr) ≠ ⟨b, 1, none⟩ := by simp
  rcases hres with ⟨rfl, ms, r, hmm, rfl, hM⟩ | ⟨rfl, hnone, r, rfl, hsuf⟩
  · obtain ⟨i, hi⟩ : ∃ i : Nat, R.size - r.length = i := ⟨_, rfl⟩
    have hsuf : r <:+ 123 :: ds := by
      have := matchL_suf (123 :: ds)
      rw [hmm] at this
      exact this
    have hle := hsuf.length_le
    have hpi : (p : Int) + (i : Int) = ((s.size - r.length : Nat) : Int) := by
      have := HX.out.2
      omega
    have hi9 : i ≤ 1024 := by omega
    rw [hi]
    have hM' := hM
    obtain ⟨A, cap, rfl, hml, _⟩ := hM
    by_cases h0 : ms = []
    · subst h0
      have hnone : readMatchers l = none := by rw [HRM.out, hmm]; rfl
      have HF := Lib.hid hnone
      clear hnone hpi hle hi hsuf hmm
      go_wp2_with fail
      refine ⟨rfl, .tuple #[], by simp [results, Tryz.results239, go_sem], rfl, hFb.setCell (.inl (by simp)) _, ?_⟩
      rw [HF.out]
      exact ⟨by rw [heap_setCell_ne hbQ.symm]; exact hQ3, _, hR3.suf, hR3.flag true⟩
    · have hsome : readMatchers l = some (ms, r) := by rw [HRM.out, hmm]; simp only; rw [if_neg h0]
      have hl0 : ((ms.length : Int) == 0) = false := by
        have : 0 < ms.length := by cases ms with | nil => exact absurd rfl h0 | cons _ _ => simp
        simp; omega
      obtain ⟨V, hV⟩ : ∃ V, Value.slice A ms.length cap = V := ⟨_, rfl⟩
      obtain ⟨L, hL⟩ : ∃ L, ms.length = L := ⟨_, rfl⟩
      rw [hL] at hl0
      rw [hL]
      have hM2 : Mts w2 (.slice A L cap) ms := by rw [← hL]; exact hM'
      have hFc : Fr [Q] w2 (w2.setCell ⟨Q, o, none⟩ (.slice A L cap)) := (Fr.refl _ _).setCell (.inl (by simp)) _
      have hM3 := hM2.keepS hFc (fun k hk => by
        simp at hk
        subst hk
        exact ⟨_, _, _, hQ3, hno⟩)
      have hR4 : Ar 84 (w2.setCell ⟨Q, o, none⟩ (.slice A L cap)) b s (123 :: ds) false := ⟨by rw [heap_setCell_ne hbQ]; exact hR3.cells, hR3.suf, hR3.short⟩
      have hQ4 := heap_setCell hQ3 o (.slice A L cap)
      have hFd : Fr [b, Q] w (w2.setCell ⟨Q, o, none⟩ (.slice A L cap)) := hFb.setCell (.inl (by simp)) _
      have HF := Lib.hid (And.intro hsome (And.intro hpi (And.intro hsuf hM3)))
      clear hsome hpi hle hi hsuf hmm hM3 hM2 hM' hFc hL hV h0 hml
      go_upto_region 4 with fail
      obtain ⟨w5, hw5⟩ : ∃ w5, w2.setCell ⟨Q, o, none⟩ (.slice A L cap) = w5 := ⟨_, rfl⟩
      have hM5 : Mts w5 (.slice A L cap) ms := by rw [← hw5]; exact HF.out.2.2.2
      rw [hw5] at hR4 hQ4 hFd ⊢
      clear hw5 t0 q0 qz y0 y1 y2 z1 z2
      have y1 := cell_of hR4.cells 1
      have z1 := frozen_of hR4.cells 1
      simp only [List.getElem?_toArray, List.getElem?_cons_zero, List.getElem?_cons_succ] at y1
      rw [show s.size - (123 :: ds).length = p from hp1] at y1
      have hM6 := hM5.keepS (S := [b]) ((Fr.refl _ _).setCell (p := ⟨b, 1, none⟩) (.inl (by simp)) (.int .i64 ((p : Int) + (i : Int)))) (fun k hk => by
        simp at hk
        subst hk
        exact ⟨_, _, _, hR4.cells, NoMt.reader _ _ _⟩)
      have HM6 := Lib.hid (And.intro hM5 hM6)
      clear hM5 hM6
      go_wp2_with fail
      refine ⟨rfl, .tuple #[], by simp [results, Tryz.results239, go_sem], rfl, hFd.setCell (.inl (by simp)) _, ?_⟩
      rw [HF.out.1]
      exact ⟨_, HM6.out.2, by rw [heap_setCell_ne hbQ.symm]; exact hQ4, hR4.set HF.out.2.2.1 HF.out.2.1⟩
  · obtain ⟨i, hi⟩ : ∃ i : Nat, R.size - r.length = i := ⟨_, rfl⟩
    have hle := hsuf.length_le
    have hpi : (p : Int) + (i : Int) = ((s.size - r.length : Nat) : Int) := by
      have := HX.out.2
      omega
    have hi9 : i ≤ 1024 := by omega
    rw [hi]
    have hR4 : ∀ W x, Ar 84 W b s (123 :: ds) false → x = (p : Int) + (i : Int) → Ar 84 (W.setCell ⟨b, 1, none⟩ (.int .i64 x)) b s r false := fun W x h hx => h.set hsuf (by rw [hx, hpi])
    have HF := Lib.hid (And.intro hR4 hnone)
    clear hR4 hnone hpi hle hi hsuf
    go_wp2_with fail
    refine ⟨rfl, .tuple #[], by simp [results, Tryz.results239, go_sem], rfl, (hFb.setCell (.inl (by simp)) _).setCell (.inl (by simp)) _, ?_⟩
    rw [HF.out.2]
    have hR5 := HF.out.1 _ _ hR3 rfl
    exact ⟨by rw [heap_setCell_ne hbQ.symm, heap_setCell_ne hbQ.symm]; exact hQ3, r, hR5.suf, hR5.flag true⟩
end Go.Proofs.YtdhmloejgoacaaaGreatDoor
namespace Go.Proofs.YtdhmloejgoacaaaGreatDoor
open Go.RowKit Go.Bl Go.Lq Go.Tq

abbrev ptr (b : Nat) : Value := .pointer (some ⟨b, 0, none⟩)
theorem meth_word (n : Nat) (W : ByteArray) (w : World) : (method (n + 1) 85 (.string W) "belfry/traceq.read").run Tryz.prog w = .ok (61, .string W) w := by kernel_rfl
theorem meth_quoted (n : Nat) (p : Addr) (w : World) : (method (n + 1) 118 (.agg #[.pointer (some p)]) "belfry/traceq.read").run Tryz.prog w = .ok (216, .agg #[.pointer (some p)]) w := by kernel_rfl
theorem meth_span (n : Nat) (p : Addr) (w : World) : (method (n + 1) 121 (.agg #[.pointer (some p)]) "belfry/traceq.read").run Tryz.prog w = .ok (229, .agg #[.pointer (some p)]) w := by kernel_rfl
theorem meth_count (n : Nat) (p : Addr) (w : World) : (method (n + 1) 92 (.agg #[.pointer (some p)]) "belfry/traceq.read").run Tryz.prog w = .ok (215, .agg #[.pointer (some p)]) w := by kernel_rfl
theorem meth_mat (n : Nat) (p : Addr) (w : World) : (method (n + 1) 124 (.agg #[.pointer (some p)]) "belfry/traceq.read").run Tryz.prog w = .ok (239, .agg #[.pointer (some p)]) w := by kernel_rfl
def PWRel (W : ByteArray) (b S : Nat) (s : ByteArray) (l : Bs) (w : World) (v : Value) (wr : World) : Prop :=
  ∃ i : Nat, v = .int .i64 (i : Int) ∧ i ≤ 1 ∧ Ar 84 wr b s (if i = 0 then skipL l else (skipL l).drop W.data.toList.length) false ∧ Fr [b] w wr ∧ wr.heap[S]? = some (.cells #[.iface 85 (.string W)] 128 (0, 0))
def PWPost (W : ByteArray) (b : Nat) (s : ByteArray) (l : Bs) (d : Bool) (w : World) (e : Ending) (w' : World) : Prop :=
  e = .returned (.bool (!d && decide (wordL l = W.data.toList))) ∧ Fr [b] w w' ∧ Ar 84 w' b s (if (!d && decide (wordL l = W.data.toList)) = true then (skipL l).drop W.data.toList.length else skipL l) d
set_option maxRecDepth 100000 in
set_option maxHeartbeats 1000000 in
theorem perhapsW_any (W : ByteArray) (b S : Nat) (s : ByteArray) (l : Bs) (d : Bool) (w : World) (h : Ar 84 w b s l d) (hS : w.heap[S]? = some (.cells #[.iface 85 (.string W)] 128 (0, 0))) (hbS : b ≠ S) :
    Calls Tryz.prog 63 #[ptr b, .slice (some ⟨S, 0, none⟩) 1 1] w (PWPost W b s l d w) := by
  have hc0 := cell_of hS 0
  simp only [List.getElem?_toArray, List.getElem?_cons_zero, List.getElem?_cons_succ] at hc0
  go_enter Tryz.func63, Tryz.ntmps63
  go_wp2_with fail
  refine (seesWord_any W b s l d _ h).mono ?_
  rintro e w1 ⟨rfl, hR, hF⟩
  have hS1 := hF.obj hS (by simpa using hbS.symm)
  have hc1 := cell_of hS1 0
  simp only [List.getElem?_toArray, List.getElem?_cons_zero, List.getElem?_cons_succ] at hc1
  obtain ⟨v, hv⟩ : ∃ v, (!d && decide (wordL l = W.data.toList)) = v := ⟨_, rfl⟩
  rw [hv]
  have HV := Lib.hid hv
  clear hv
  cases v
  · go_wp2_with fail
    go_ret
    unfold PWPost
    rw [HV.out]
    exact ⟨rfl, hF, hR⟩
  · obtain ⟨rfl, hw⟩ : d = false ∧ wordL l = W.data.toList := by
      have := HV.out
      cases d
      · exact ⟨rfl, by simpa using this⟩
      · simp at this
    have H0 : PWRel W b S s l w (.int .i64 0) w1 := ⟨0, rfl, by omega, hR, hF, hS1⟩
    have HW := Lib.hid hw
    clear hw hR hF hS1 hc1 hc0 h
    go_wp2_with fail
    go_loopw [15] (fun v wr => PWRel W b S s l w v wr) (fun v _ => 1 - (intOf v).toNat)
    case atStart => exact H0
    case round =>
      clear H0
      obtain ⟨i, rfl, hi, hR, hF, hS1⟩ := hrel
      have hc1 := cell_of hS1 0
      have k2 := cell_of hR.cells 2
      simp only [List.getElem?_toArray, List.getElem?_cons_zero, List.getElem?_cons_succ] at hc1 k2
      have hic : i = 0 ∨ i = 1 := by omega
      rcases hic with rfl | rfl
      · rw [if_pos rfl] at hR
        have hm := fun n => meth_word n W
        go_wp2_with fail
        refine (wordRead_any W b s (skipL l) false _ hR).mono ?_
        rintro e w2 ⟨rfl, hR2, hF2⟩
        have hwr : wordR W.data.toList (skipL l) false = ((skipL l).drop W.data.toList.length, false) := by
          unfold wordR
          rw [wordL_skip, HW.out, if_pos rfl, skip_skip]
        rw [hwr] at hR2
        have hS2 := hF2.obj hS1 (by simpa using hbS.symm)
        have hF3 := hF.trans hF2
        clear hm hwr hc1 k2 hR hF hS1 hF2
        go_wp2_with fail
        exact ⟨⟨1, rfl, by omega, hR2, hF3, hS2⟩, by simp [intOf]⟩
      · rw [if_neg (by decide)] at hR
        go_wp2_with fail
        go_ret
        unfold PWPost
        rw [HV.out, if_pos rfl]
        exact ⟨rfl, hF, hR⟩
end Go.Proofs.YtdhmloejgoacaaaGreatDoor
