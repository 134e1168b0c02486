/- TraceqFits' walk. -/
import Derived.Test.YtdhmloejgoacaaaGreatDoorMf53
import Derived.Test.YtdhmloejgoacaaaGreatDoorMw33
import Derived.Test.YtdhmloejgoacaaaGreatDoorMw46
import Derived.Deep.MidRow
import Derived.Test.YtdhmloejgoacaaaGreatDoorLqLent
import Derived.Laws.AppendOwnNone
import Derived.Maps.AppendAt
set_option linter.unusedVariables false
set_option linter.unusedSimpArgs false
namespace Go.Proofs.YtdhmloejgoacaaaGreatDoor
open Go.RowKit Go.Bl Go.Lq Go.Tq

theorem infoRc1T : (Tryz.prog.info? 39).map (·.size) = some 40 := by kernel_rfl
theorem fold_atT {α : Type} : ∀ (L : List α) (k : Nat) (Z : Array α) (i : Nat), ((L.zipIdx k).foldl (fun cs x => cs.setIfInBounds x.2 x.1) Z)[i]? = if k ≤ i ∧ i < k + L.length ∧ i < Z.size then L[i - k]? else Z[i]?
  | [], k, Z, i => by
    rw [if_neg (by simp; omega)]
    rfl
  | x :: L, k, Z, i => by
    rw [List.zipIdx_cons, List.foldl_cons, fold_atT L (k + 1) _ i, Array.size_setIfInBounds, Array.getElem?_setIfInBounds]
    simp only [List.length_cons]
    by_cases h1 : i = k
    · subst h1
      rw [if_neg (by omega), if_pos rfl]
      by_cases h2 : i < Z.size
      · rw [if_pos h2, if_pos (by omega)]
        simp
      · rw [if_neg h2, if_neg (by omega), Array.getElem?_eq_none (by omega)]
    · have hk : ¬ k = i := fun h => h1 h.symm
      rw [if_neg hk]
      by_cases h3 : k + 1 ≤ i ∧ i < k + 1 + L.length ∧ i < Z.size
      · rw [if_pos h3, if_pos (by omega)]
        have : i - k = (i - (k + 1)) + 1 := by omega
        rw [this]
        rfl
      · rw [if_neg h3, if_neg (by omega)]
theorem fold_buildT {α : Type} (Z : Array α) (L : List α) (h : Z.size = L.length) : L.zipIdx.foldl (fun cs x => cs.setIfInBounds x.2 x.1) Z = L.toArray := by
  apply Array.ext_getElem?
  intro i
  rw [fold_atT L 0 Z i]
  by_cases hi : i < L.length
  · rw [if_pos (by omega)]
    simp
  · rw [if_neg (by omega), Array.getElem?_eq_none (by omega)]
    simp
    omega
theorem fitsM_append (l : List At) (a b : List Mt) : fitsM l (a ++ b) = (fitsM l a && fitsM l b) := by
  induction a with
  | nil => rfl
  | cons x xs ih => simp only [List.cons_append, fitsM, ih]; split <;> simp
theorem fitsT_more {t : St} {r : Rc} {more : List Mt} (h : fitsT t r = false) : fitsT ⟨t.name, t.least, t.mat ++ more⟩ r = false := by
  unfold fitsT at h ⊢
  simp only [fitsM_append]
  simp only [Bool.and_eq_false_iff] at h ⊢
  rcases h with ((h | h) | h) | h
  · exact .inl (.inl (.inl h))
  · exact .inl (.inl (.inr h))
  · exact .inl (.inr h)
  · exact .inr (.inl h)
theorem timeP_mono {t tt a b : Int} (hab : a < b) (hb : b < 9223372036854775808) (h : timeP t tt a = false) : timeP t tt b = false := by
  unfold timeP at h ⊢
  simp only [Bool.and_eq_false_iff, decide_eq_false_iff_not] at h ⊢
  rcases h with h | h
  · exact .inl h
  · right
    simp only [IntKind.wrap_u64] at h ⊢
    omega
theorem fitsT_longer {t : St} {r : Rc} {b : Int} (hab : t.least < b) (hb : b < 9223372036854775808) (h : fitsT t r = false) : fitsT ⟨t.name, b, t.mat⟩ r = false := by
  unfold fitsT at h ⊢
  simp only [Bool.and_eq_false_iff] at h ⊢
  rcases h with ((h | h) | h) | h
  · exact .inl (.inl (.inl h))
  · exact .inl (.inl (.inr h))
  · exact .inl (.inr (timeP_mono hab hb h))
  · exact .inr h
/-- Matchers are put behind an own row of matchers. -/
theorem append_to (w : World) (ty : TypeId) (B : Nat) (v : Value) (l1 : List Mt) (hown : w.ownsRow B 74 3 v l1.length (mtCells l1)) (hB : B ≤ w.heap.size) (v2 : Value) (l2 : List Mt) (h : Mts w v2 l2) (hl : l1.length + l2.length ≤ 4000000) :
    ∃ v' w', (Builtin.append_ #[22, 22] ty #[v, v2]).run Tryz.prog w = .ok v' w' ∧ w'.ownsRow B 74 3 v' (l1 ++ l2).length (mtCells (l1 ++ l2)) ∧ Fr v.ownBlock.toList w w' := by
  obtain ⟨i0, hi0, hz0, hz1, hz2⟩ := info_parts infoMt
  obtain ⟨A, cp, rfl, hl0, hx⟩ := h
  rcases Nat.eq_zero_or_pos l2.length with h0 | h0
  · obtain rfl : l2 = [] := List.eq_nil_of_length_eq_zero h0
    obtain ⟨base, sl, sc, rfl, hle⟩ : ∃ base sl sc, v = .slice base sl sc ∧ sl ≤ sc := by
      rcases hown.2 with ⟨rfl, _⟩ | ⟨g, cap, cur, rfl, _, _, hle, _⟩
      · exact ⟨_, _, _, rfl, Nat.le_refl _⟩
      · exact ⟨_, _, _, rfl, hle⟩
    refine ⟨_, _, run_append_nothing w _ _ ty 74 i0 Tryz.underlying22 hi0 base sl sc hle (.slice A 0 cp) ?_, by rw [List.append_nil]; exact hown, Fr.refl _ _⟩
    cases A with
    | none => exact Src.ofNil w Tryz.underlying22 cp
    | some ad => exact Src.ofSlice w Tryz.underlying22 ad 0 cp [] (by simp) (by simp) (by simp)
  · obtain ⟨ad, rfl, _⟩ := hx 0 h0
    have hx' : ∀ i (hi : i < l2.length), MtAt w (ad.add (i * 3)) l2[i] := fun i hi => by
      obtain ⟨ad', e, hm⟩ := hx i hi
      cases e
      exact hm
    obtain ⟨v', w', hr, h2, h3, _⟩ := run_append_own_at (P := Tryz.prog) (w := w) B 22 ty 74 i0 _ 3 40 Tryz.underlying22 hi0 hz0 hz1 hz2 rfl (by omega) v l1.length (mtCells l1) hown ad l2.length cp (mtCells l2) (mtCells_length l2) (mtCells_at hx') (mtCells_one l2) (by unfold maxLen; omega) (by omega) hB
    refine ⟨v', w', hr, ?_, fr_grown h3⟩
    rw [List.length_append, mtCells_append]
    exact h2
theorem wpList_append_to {ops : Array Oper} {rest : List Oper} {o : Oper} {a : Act} {Q : Exit → Act → World → Prop} {w : World} (hgd : o.guard = none) (s x : Operand)
    (ho : o.op = .call { callee := .builtin .append, args := #[s, x], argTypes := #[22, 22] }) (B : Nat) (v : Value) (l1 : List Mt) (hs : a.eval s = v) (hown : w.ownsRow B 74 3 v l1.length (mtCells l1)) (hB : B ≤ w.heap.size)
    (v2 : Value) (hx : a.eval x = v2) (l2 : List Mt) (hM : Mts w v2 l2) (hl : l1.length + l2.length ≤ 4000000)
    (h : ∀ v' w', w'.ownsRow B 74 3 v' (l1 ++ l2).length (mtCells (l1 ++ l2)) → Fr v.ownBlock.toList w w' → wpList Tryz.prog ops Q rest (a.put o.dst v') w') : wpList Tryz.prog ops Q (o :: rest) a w := by
  obtain ⟨v', w', hr, h1, h2⟩ := append_to w o.type B v l1 hown hB v2 l2 hM hl
  refine wpList_plain hgd fun _ hK => ?_
  unfold Oper.wp execOp
  simp only [ho, resolve, invoke, builtin, Sem.run_bind, Sem.run_pure, Result.andThen_ok, List.map_toArray, List.map_cons, List.map_nil, hs, hx, hr]
  exact hK _ _ (h v' w' h1 h2)
theorem own_ge {w : World} {B : Nat} {T : TypeId} {k : Nat} {v : Value} {n : Nat} {xs : List Value} (h : w.ownsRow B T k v n xs) : ∀ g ∈ v.ownBlock.toList, B ≤ g := by
  intro g hg
  rw [Option.mem_toList] at hg
  rcases h.2 with ⟨rfl, _⟩ | ⟨g', cap, cur, rfl, hb, _⟩
  · cases hg
  · have : g' = g := by simpa [Value.ownBlock] using hg
    omega
/-- A row of its own is kept by what leaves its block alone. -/
theorem own_keep {S : List Nat} {w w' : World} {B : Nat} {T : TypeId} {k : Nat} {v : Value} {n : Nat} {xs : List Value} (h : w.ownsRow B T k v n xs) (hF : Fr S w w') (hS : ∀ g ∈ S, g < B) : w'.ownsRow B T k v n xs := by
  refine ⟨h.1, ?_⟩
  rcases h.2 with h0 | ⟨g, cap, cur, e, hb, hg, rest⟩
  · exact .inl h0
  · exact .inr ⟨g, cap, cur, e, hb, hF.obj hg (fun hk => by have := hS g hk; omega), rest⟩
theorem cells3 {WE w' : World} {b : Nat} {x y z : Value} {T : TypeId} (hE : WE.heap[b]? = some (.cells #[x, y, z] T (0, 0))) (hF : Fr [] WE w') :
    w'.cell? ⟨b, 0, none⟩ = some x ∧ w'.cell? ⟨b, 1, none⟩ = some y ∧ w'.cell? ⟨b, 2, none⟩ = some z := by
  have h := hF.obj hE (by simp)
  exact ⟨cell_of h 0, cell_of h 1, cell_of h 2⟩
theorem range_frS {S : List Nat} {w w' : World} {b o : Nat} {cs : List Value} (h : w.rangeAt b o cs) (hF : Fr S w w') (hb : b ∉ S) : w'.rangeAt b o cs := fun j v hv => cell_frS hF (h j v hv) hb
theorem wpList_load_if {ops : Array Oper} {rest : List Oper} {op : Oper} {a : Act} {w : World} {Q : Exit → Act → World → Prop} (hw : Region.wanted op (yielded ops a.tmps) = true) (ty : TypeId) (x : Operand) (ho : op.op = .load ty x)
    (b o : Nat) (hx : a.eval x = .pointer (some ⟨b, o, none⟩)) (cs : List Value) (d : TypeDesc) (hc : w.rangeAt b o cs)
    (hu : Tryz.prog.underlying ty = some d) (hd : d.isRow = true) (hi : (Tryz.prog.info? ty).map (·.size) = some cs.length)
    (h : wpList Tryz.prog ops Q rest (a.put op.dst (.agg cs.toArray)) w) : wpList Tryz.prog ops Q (op :: rest) a w := by
  unfold wpList
  rw [if_pos hw]
  exact .inl (wp_load_mid ty x ho b o hx cs d hc hu hd hi h)
theorem NoMt.st3 (a : ByteArray) (n : Int) (s : Option Addr × Nat × Nat) : NoMt #[.string a, .int .i64 n, .slice s.1 s.2.1 s.2.2] := by
  intro i x t h1 h2
  match i with
  | 0 => simp at h2
  | 1 => simp at h1
  | 2 => simp at h1
  | i + 3 => simp at h1
set_option maxRecDepth 100000 in
set_option maxHeartbeats 4000000 in
theorem fitsW_any (q : St) (r : Rc) (more : List Mt) (n : Int) (v v2 v3 : Value) (w : World) (hG : GV w) (hX0 : GX w) (h8 : 8 ≤ w.heap.size) (hv : StV w v q) (hr : RecV w v2 r) (hm3 : Mts w v3 more) (hn : n < 9223372036854775808)
    (hls : AtsShort r.attrs) (hms : MtsShort (q.mat ++ more)) :
    Calls Tryz.prog 9 #[v, v2, v3, .int .i64 n] w fun e w' => e = .returned (.bool true) ∧ Fr [] w w' := by
  have HV := Lib.hid hv
  have HR := Lib.hid hr
  have HM3 := Lib.hid hm3
  obtain ⟨m, rfl, hm⟩ := hv
  obtain ⟨A2, cp2, rfl, _, _⟩ := id hm
  obtain ⟨AA, ca, rfl, hat, t1, t2, t3⟩ := hr
  obtain ⟨L, hL⟩ : ∃ L, rcList (.slice AA r.attrs.length ca) r = L := ⟨_, rfl⟩
  obtain ⟨NM, hNM⟩ : ∃ NM, ByteArray.mk q.name.toArray = NM := ⟨_, rfl⟩
  obtain ⟨X, hX⟩ : ∃ X, w.heap.size = X := ⟨_, rfl⟩
  have hLl : L.length = 40 := by rw [← hL]; exact rcList_len _ t1 t2 t3
  rw [hL]
  have hrv : ∀ w', Fr [] w w' → RecV w' (.agg L.toArray) r := fun w' hF => by rw [← hL]; exact HR.out.fr hF
  have HRV := Lib.hid hrv
  obtain ⟨WA, hWA⟩ : ∃ WA, (w.alloc (.cells #[.string NM, .int .i64 q.least, .slice A2 q.mat.length cp2] 45)).alloc (.cells L.toArray 39) = WA := ⟨_, rfl⟩
  have hFA : Fr [] w WA := by rw [← hWA]; exact ((Fr.refl _ _).alloc _).alloc _
  have hB1 : WA.heap[X]? = some (.cells #[.string NM, .int .i64 q.least, .slice A2 q.mat.length cp2] 45 (0, 0)) := by rw [← hWA, ← hX]; exact Go.Bl.heap_alloc_old (Go.Bl.heap_alloc w _) _
  have hB2 : WA.heap[X + 1]? = some (.cells L.toArray 39 (0, 0)) := by
    rw [← hWA]
    have := Go.Bl.heap_alloc (w.alloc (.cells #[.string NM, .int .i64 q.least, .slice A2 q.mat.length cp2] 45)) (.cells L.toArray 39)
    rw [size_alloc', hX] at this
    exact this
  have hXA : X + 1 < WA.heap.size := lt_of_obj hB2
  have hrg : WA.rangeAt (X + 1) 0 L := by
    intro j v hv
    rw [Nat.zero_add, cell_of hB2 j]
    simpa using hv
  have hstv : ∀ w', Fr [] w w' → StV w' (.agg #[.string NM, .int .i64 q.least, .slice A2 q.mat.length cp2]) q := fun w' hF => by rw [← hNM]; exact HV.out.fr hF
  have HSTV := Lib.hid hstv
  have hmq : MtsShort q.mat := ⟨by have := hms.1; rw [List.length_append] at this; omega, fun y hy => hms.2 y (List.mem_append_left _ hy)⟩
  have hlm : q.mat.length + more.length ≤ 2000000 := by have := hms.1; rwa [List.length_append] at this
  obtain ⟨x0, x1, x2⟩ := cells3 hB1 (Fr.refl [] WA)
  have hf1 := fitsT_any q r _ _ WA (hX0.fr hFA) (HSTV.out _ hFA) (HRV.out _ hFA) hls hmq
  obtain ⟨a, ha⟩ : ∃ a, fitsT q r = a := ⟨_, rfl⟩
  rw [ha] at hf1
  have HA := Lib.hid (And.intro hFA (And.intro hB1 (And.intro hrg ha)))
  have HLl := Lib.hid hLl
  rw [hNM]
  have HNM := Lib.hid hNM
  clear hm hat hL hNM hrv hstv hFA hB1 hB2 hrg ha t1 t2 t3 hLl
  go_enter Tryz.func9, Tryz.ntmps9
  go_upto_region 1 with fail
  (try rw [hX])
  (try rw [hWA])
  clear hWA
  go_wp2_with (refine wpList_load_mid rfl 39 (.tmp 5) rfl (X + 1) 0 (by simp [Act.eval]) L _ HA.out.2.2.1 Tryz.underlying39 rfl (by rw [HLl.out]; exact infoRc1T) ?_)
  (try rw [fold_buildT _ _ (by rw [HLl.out]; rfl)])
  refine hf1.mono ?_
  rintro e w1 ⟨rfl, hF1⟩
  have hFw1 := HA.out.1.trans hF1
  have hB1 := hF1.obj HA.out.2.1 (by simp)
  have hrg := range_frS HA.out.2.2.1 hF1 (by simp)
  clear x0 x1 x2 hf1
  obtain ⟨x0, x1, x2⟩ := cells3 hB1 (Fr.refl [] w1)
  have hf2 := fitsTR_any q r _ _ w1 (HSTV.out _ hFw1) (HRV.out _ hFw1) hls hmq
  rw [HA.out.2.2.2] at hf2
  have H1 := Lib.hid (And.intro hFw1 (And.intro hB1 (And.intro hrg hF1)))
  clear hFw1 hB1 hrg hF1
  go_wp2_with (refine wpList_load_mid rfl 39 (.tmp 5) rfl (X + 1) 0 (by simp [Act.eval]) L _ H1.out.2.2.1 Tryz.underlying39 rfl (by rw [HLl.out]; exact infoRc1T) ?_)
  (try rw [fold_buildT _ _ (by rw [HLl.out]; rfl)])
  refine hf2.mono ?_
  rintro e w2 ⟨rfl, hF2⟩
  have hFw2 := H1.out.1.trans hF2
  have hB1 := hF2.obj H1.out.2.1 (by simp)
  have hrg := range_frS H1.out.2.2.1 hF2 (by simp)
  clear x0 x1 x2 hf2
  obtain ⟨x0, x1, x2⟩ := cells3 hB1 (Fr.refl [] w2)
  have hXw2 : X + 1 < w2.heap.size := Nat.lt_of_lt_of_le hXA (H1.out.2.2.2.trans hF2).size
  have H2 := Lib.hid (And.intro hFw2 (And.intro hB1 hrg))
  clear hFw2 hB1 hrg hF2
  go_upto_region 5 with fail
  obtain ⟨Y, hY⟩ : ∃ Y, w2.heap.size = Y := ⟨_, rfl⟩
  obtain ⟨w3, hw3⟩ : ∃ w3, w2.alloc (.cells #[.string NM, .int .i64 q.least, .slice A2 q.mat.length cp2] 45) = w3 := ⟨_, rfl⟩
  have hY3 : w3.heap[Y]? = some (.cells #[.string NM, .int .i64 q.least, .slice A2 q.mat.length cp2] 45 (0, 0)) := by rw [← hw3, ← hY]; exact Go.Bl.heap_alloc w2 _
  have hF23 : Fr [] w2 w3 := by rw [← hw3]; exact (Fr.refl _ _).alloc _
  have hXY : X + 1 < Y := by rw [← hY]; exact hXw2
  rw [hw3]
  (try rw [hY])
  have hwY : w.heap.size ≤ Y := by rw [hX]; omega
  clear hw3 x0 x1 x2 hY hXw2 hXA hX
  have t2 := cell_of hY3 2
  have z2 := frozen_of hY3 2
  simp only [List.getElem?_toArray, List.getElem?_cons_zero, List.getElem?_cons_succ] at t2
  have hY4 : (w3.setCell ⟨Y, 2, none⟩ (.slice none 0 0)).heap[Y]? = some (.cells #[.string NM, .int .i64 q.least, .slice none 0 0] 45 (0, 0)) := by rw [heap_setCell hY3]; rfl
  have hF34 : Fr [Y] w3 (w3.setCell ⟨Y, 2, none⟩ (.slice none 0 0)) := (Fr.refl _ _).setCell (.inl (by simp)) _
  go_upto_region 6 with fail
  obtain ⟨w4, hw4⟩ : ∃ w4, w3.setCell ⟨Y, 2, none⟩ (.slice none 0 0) = w4 := ⟨_, rfl⟩
  rw [hw4] at hY4 hF34 ⊢
  clear hw4 t2 z2
  have hFw4 : Fr [] w w4 := (H2.out.1.trans hF23).new hF34 (by simp; exact hwY)
  have hX4 := hF34.obj (hF23.obj H2.out.2.1 (by simp)) (by simp; omega)
  have hR4 := range_frS (range_frS H2.out.2.2 hF23 (by simp)) hF34 (by simp; omega)
  have hB4 : Y + 1 ≤ w4.heap.size := lt_of_obj hY4
  have t2 := cell_of hY4 2
  have x2 := cell_of hX4 2
  simp only [List.getElem?_toArray, List.getElem?_cons_zero, List.getElem?_cons_succ] at t2 x2
  have hq4 : Mts w4 (.slice A2 q.mat.length cp2) q.mat := by
    obtain ⟨m', e, hm'⟩ := HSTV.out _ hFw4
    cases e
    exact hm'
  go_upto_region 7 with (at_builtin; refine wpList_append_to rfl (.tmp 23) (.tmp 25) rfl (Y + 1) (.slice none 0 0) [] (by simp [Act.eval]) (World.ownsRow_nil _ _ _ _) hB4 (.slice A2 q.mat.length cp2) (by simp [Act.eval]) q.mat hq4 (by simp; omega) ?_; intro v1 w5 hv1 hF45; have HV1 := Lib.hid (And.intro hv1 hF45); obtain ⟨B1, K1, D1, rfl⟩ : ∃ A L C, v1 = .slice A L C := (by rcases hv1.2 with ⟨e, _⟩ | ⟨g, cap, cur, e, _⟩ <;> exact ⟨_, _, _, e⟩); have hY5 := hF45.obj hY4 (by simp [Value.ownBlock]); have r2 := cell_of hY5 2; have y2 := frozen_of hY5 2; clear hv1 hF45 t2 x2; simp only [List.getElem?_toArray, List.getElem?_cons_zero, List.getElem?_cons_succ] at r2)
  have hXo : ∀ {S : List Nat}, (∀ g ∈ S, Y ≤ g) → X ∉ S ∧ X + 1 ∉ S := fun h => ⟨fun e => by have := h _ e; omega, fun e => by have := h _ e; omega⟩
  have hY6 : (w5.setCell ⟨Y, 2, none⟩ (.slice B1 K1 D1)).heap[Y]? = some (.cells #[.string NM, .int .i64 q.least, .slice B1 K1 D1] 45 (0, 0)) := by rw [heap_setCell hY5]; rfl
  have hF56 : Fr [Y] w5 (w5.setCell ⟨Y, 2, none⟩ (.slice B1 K1 D1)) := (Fr.refl _ _).setCell (.inl (by simp)) _
  obtain ⟨w6, hw6⟩ : ∃ w6, w5.setCell ⟨Y, 2, none⟩ (.slice B1 K1 D1) = w6 := ⟨_, rfl⟩
  rw [hw6] at hY6 hF56 ⊢
  clear hw6 r2 y2
  have hown6 := own_keep HV1.out.1 hF56 (by simp)
  rw [List.nil_append] at hown6
  have hF45 : Fr [] w4 w5 := HV1.out.2
  have hFw6 : Fr [] w w6 := (hFw4.trans hF45).new hF56 (by simp; exact hwY)
  have hX6 := hF56.obj (hF45.obj hX4 (by simp)) (by simp; omega)
  have hR6 := range_frS (range_frS hR4 hF45 (by simp)) hF56 (by simp; omega)
  have hB6 : Y + 1 ≤ w6.heap.size := lt_of_obj hY6
  have t2 := cell_of hY6 2
  simp only [List.getElem?_toArray, List.getElem?_cons_zero, List.getElem?_cons_succ] at t2
  have hm6 := HM3.out.fr hFw6
  have HO6 := Lib.hid (own_ge hown6)
  clear hX4 hR4 hY5 hY4 hB4 hq4 HV1 hF45 hF56 hF34 hF23 hFw4
  go_upto_region 8 with (at_builtin; refine wpList_append_to rfl (.tmp 29) (.tmp 30) rfl (Y + 1) (.slice B1 K1 D1) q.mat (by simp [Act.eval]) hown6 hB6 v3 (by simp [Act.eval]) more hm6 (by omega) ?_; intro v7 w7 hv7 hF67; have HV7 := Lib.hid (And.intro hv7 hF67); obtain ⟨B2, K2, D2, rfl⟩ : ∃ A L C, v7 = .slice A L C := (by rcases hv7.2 with ⟨e, _⟩ | ⟨g, cap, cur, e, _⟩ <;> exact ⟨_, _, _, e⟩); have hY7 := hF67.obj hY6 (fun e => by have := HO6.out _ e; omega); have r2 := cell_of hY7 2; have y2 := frozen_of hY7 2; clear hv7 hF67 t2; simp only [List.getElem?_toArray, List.getElem?_cons_zero, List.getElem?_cons_succ] at r2)
  have hY8 : (w7.setCell ⟨Y, 2, none⟩ (.slice B2 K2 D2)).heap[Y]? = some (.cells #[.string NM, .int .i64 q.least, .slice B2 K2 D2] 45 (0, 0)) := by rw [heap_setCell hY7]; rfl
  have hF78 : Fr [Y] w7 (w7.setCell ⟨Y, 2, none⟩ (.slice B2 K2 D2)) := (Fr.refl _ _).setCell (.inl (by simp)) _
  obtain ⟨w8, hw8⟩ : ∃ w8, w7.setCell ⟨Y, 2, none⟩ (.slice B2 K2 D2) = w8 := ⟨_, rfl⟩
  rw [hw8] at hY8 hF78 ⊢
  clear hw8 r2 y2
  have hown8 := own_keep HV7.out.1 hF78 (by simp)
  have hF67 := HV7.out.2
  have hFw8 : Fr [] w w8 := (hFw6.new hF67 (fun g hg => by have := HO6.out g hg; omega)).new hF78 (by simp; exact hwY)
  have hX8 := hF78.obj (hF67.obj hX6 (hXo (fun g hg => by have := HO6.out g hg; omega)).1) (by simp; omega)
  have hR8 := range_frS (range_frS hR6 hF67 (hXo (fun g hg => by have := HO6.out g hg; omega)).2) hF78 (by simp; omega)
  have hM8 : Mts w8 (.slice B2 K2 D2) (q.mat ++ more) := Mts.ofRow hown8 (by rw [List.length_append]; omega)
  clear hX6 hR6 hY7 hY6 hB6 HV7 hF67 hF78 hown6 hown8 hm6 hFw6 HO6
  obtain ⟨x0, x1, x2⟩ := cells3 hX8 (Fr.refl [] w8)
  go_upto_region 9 with fail
  obtain ⟨Z, hZ⟩ : ∃ Z, w8.heap.size = Z := ⟨_, rfl⟩
  obtain ⟨w9, hw9⟩ : ∃ w9, w8.alloc (.cells #[.string NM, .int .i64 q.least, .slice A2 q.mat.length cp2] 45) = w9 := ⟨_, rfl⟩
  have hZ9 : w9.heap[Z]? = some (.cells #[.string NM, .int .i64 q.least, .slice A2 q.mat.length cp2] 45 (0, 0)) := by rw [← hw9, ← hZ]; exact Go.Bl.heap_alloc w8 _
  have hF89 : Fr [] w8 w9 := by rw [← hw9]; exact (Fr.refl _ _).alloc _
  have hYZ : Y < Z := by rw [← hZ]; exact lt_of_obj hY8
  rw [hw9]
  (try rw [hZ])
  clear hw9 x0 x1 x2 hZ
  have hX9 := hF89.obj hX8 (by simp)
  have x1 := cell_of hX9 1
  simp only [List.getElem?_toArray, List.getElem?_cons_zero, List.getElem?_cons_succ] at x1
  have hY9 := hF89.obj hY8 (by simp)
  have hFw9 := hFw8.trans hF89
  have hR9 := range_frS hR8 hF89 (by simp)
  have hM9 := hM8.fr hF89
  clear hX8 hY8 hFw8 hR8 hM8 hF89 hX9
  obtain ⟨ls, hls2⟩ : ∃ x, q.least = x := ⟨_, rfl⟩
  have HLS := Lib.hid hls2
  rw [hls2] at hZ9 hY9 x1 ⊢
  clear hls2
  by_cases hc : ls < n
  · have z1 := cell_of hZ9 1
    have f1 := frozen_of hZ9 1
    simp only [List.getElem?_toArray, List.getElem?_cons_zero, List.getElem?_cons_succ] at z1
    have hZ10 : (w9.setCell ⟨Z, 1, none⟩ (.int .i64 n)).heap[Z]? = some (.cells #[.string NM, .int .i64 n, .slice A2 q.mat.length cp2] 45 (0, 0)) := by rw [heap_setCell hZ9]; rfl
    have hF910 : Fr [Z] w9 (w9.setCell ⟨Z, 1, none⟩ (.int .i64 n)) := (Fr.refl _ _).setCell (.inl (by simp)) _
    go_upto_region 11 with fail
    obtain ⟨wE, hwE⟩ : ∃ wE, w9.setCell ⟨Z, 1, none⟩ (.int .i64 n) = wE := ⟨_, rfl⟩
    rw [hwE] at hZ10 hF910 ⊢
    have hFwE : Fr [] w wE := hFw9.new hF910 (by simp; omega)
    have hYE := hF910.obj hY9 (by simp; omega)
    have hZE := hZ10
    have hREE := range_frS hR9 hF910 (by simp; omega)
    have hME : Mts wE (.slice B2 K2 D2) (q.mat ++ more) := hM9.keepS hF910 (fun k hk => by obtain rfl := List.mem_singleton.1 hk; exact ⟨_, _, _, hZ9, NoMt.st3 NM ls (A2, q.mat.length, cp2)⟩)
    have hfy : a = false → fitsT ⟨q.name, n, q.mat⟩ r = false := fun h => fitsT_longer (by rw [HLS.out]; exact hc) hn (by rw [HA.out.2.2.2, h])
    clear hwE z1 f1 x1 hZ10 hF910 hZ9 hY9 hFw9 hR9 hM9 hc
    have hstx : StV wE (.agg #[.string NM, .int .i64 ls, .slice B2 K2 D2]) ⟨q.name, q.least, q.mat ++ more⟩ := ⟨_, by rw [HNM.out, HLS.out], hME⟩
    have hsty : StV wE (.agg #[.string NM, .int .i64 n, .slice A2 q.mat.length cp2]) ⟨q.name, n, q.mat⟩ := ⟨_, by rw [HNM.out], by
      obtain ⟨m', e, hm'⟩ := HSTV.out _ hFwE
      cases e
      exact hm'⟩
    cases a with
    | true =>
      have hk := knownT_any wE (hG.frn hFwE h8) (Nat.le_trans h8 hFwE.size)
      have HF := Lib.hid hFwE
      clear hFwE hREE hME hYE hZE hstx hsty hfy
      go_wp2_with fail
      refine hk.mono ?_
      rintro e w11 ⟨rfl, hF11⟩
      go_wp2_with fail
      go_ret
      exact ⟨rfl, HF.out.trans hF11⟩
    | false =>
      have hf3 := fitsT_any ⟨q.name, q.least, q.mat ++ more⟩ r _ _ wE (hX0.fr hFwE) hstx (HRV.out _ hFwE) hls hms
      rw [fitsT_more HA.out.2.2.2] at hf3
      obtain ⟨y0, y1, y2⟩ := cells3 hYE (Fr.refl [] wE)
      have HE := Lib.hid (And.intro hFwE (And.intro hYE (And.intro hZE (And.intro hREE (And.intro hsty (hfy rfl))))))
      clear hFwE hREE hME hYE hZE hstx hsty hfy
      go_wp2_with (refine wpList_load_if (by rfl) 39 (.tmp 5) rfl (X + 1) 0 (by simp [Act.eval]) L _ HE.out.2.2.2.1 Tryz.underlying39 rfl (by rw [HLl.out]; exact infoRc1T) ?_)
      (try rw [fold_buildT _ _ (by rw [HLl.out]; rfl)])
      refine hf3.mono ?_
      rintro e w11 ⟨rfl, hF11⟩
      have hF12 := HE.out.1.trans hF11
      have hZ11 := hF11.obj HE.out.2.2.1 (by simp)
      have hR11 := range_frS HE.out.2.2.2.1 hF11 (by simp)
      have hf4 := fitsT_any ⟨q.name, n, q.mat⟩ r _ _ w11 (hX0.fr hF12) (HE.out.2.2.2.2.1.fr hF11) (HRV.out _ hF12) hls hmq
      rw [HE.out.2.2.2.2.2] at hf4
      clear y0 y1 y2 hf3
      obtain ⟨y0, y1, y2⟩ := cells3 hZ11 (Fr.refl [] w11)
      have H11 := Lib.hid (And.intro hF12 hR11)
      clear hF11 hF12 hZ11 hR11
      go_wp2_with (refine wpList_load_if (by rfl) 39 (.tmp 5) rfl (X + 1) 0 (by simp [Act.eval]) L _ H11.out.2 Tryz.underlying39 rfl (by rw [HLl.out]; exact infoRc1T) ?_)
      (try rw [fold_buildT _ _ (by rw [HLl.out]; rfl)])
      refine hf4.mono ?_
      rintro e w12 ⟨rfl, hF12⟩
      have hFz := H11.out.1.trans hF12
      have hk := knownT_any w12 (hG.frn hFz h8) (Nat.le_trans h8 hFz.size)
      have HF := Lib.hid hFz
      clear hF12 hFz y0 y1 y2 hf4
      go_wp2_with fail
      refine hk.mono ?_
      rintro e w13 ⟨rfl, hF13⟩
      go_wp2_with fail
      go_ret
      exact ⟨rfl, HF.out.trans hF13⟩
  · go_upto_region 11 with fail
    have hFwE := hFw9
    have hYE := hY9
    have hZE := hZ9
    have hREE := hR9
    have hME := hM9
    have hfy : a = false → fitsT ⟨q.name, ls, q.mat⟩ r = false := fun h => by rw [← HLS.out, ← h]; exact HA.out.2.2.2
    clear x1 hZ9 hY9 hFw9 hR9 hM9 hc
    have hstx : StV w9 (.agg #[.string NM, .int .i64 ls, .slice B2 K2 D2]) ⟨q.name, q.least, q.mat ++ more⟩ := ⟨_, by rw [HNM.out, HLS.out], hME⟩
    have hsty : StV w9 (.agg #[.string NM, .int .i64 ls, .slice A2 q.mat.length cp2]) ⟨q.name, ls, q.mat⟩ := ⟨_, by rw [HNM.out], by
      obtain ⟨m', e, hm'⟩ := HSTV.out _ hFwE
      cases e
      exact hm'⟩
    cases a with
    | true =>
      have hk := knownT_any w9 (hG.frn hFwE h8) (Nat.le_trans h8 hFwE.size)
      have HF := Lib.hid hFwE
      clear hFwE hREE hME hYE hZE hstx hsty hfy
      go_wp2_with fail
      refine hk.mono ?_
      rintro e w11 ⟨rfl, hF11⟩
      go_wp2_with fail
      go_ret
      exact ⟨rfl, HF.out.trans hF11⟩
    | false =>
      have hf3 := fitsT_any ⟨q.name, q.least, q.mat ++ more⟩ r _ _ w9 (hX0.fr hFwE) hstx (HRV.out _ hFwE) hls hms
      rw [fitsT_more HA.out.2.2.2] at hf3
      obtain ⟨y0, y1, y2⟩ := cells3 hYE (Fr.refl [] w9)
      have HE := Lib.hid (And.intro hFwE (And.intro hYE (And.intro hZE (And.intro hREE (And.intro hsty (hfy rfl))))))
      clear hFwE hREE hME hYE hZE hstx hsty hfy
      go_wp2_with (refine wpList_load_if (by rfl) 39 (.tmp 5) rfl (X + 1) 0 (by simp [Act.eval]) L _ HE.out.2.2.2.1 Tryz.underlying39 rfl (by rw [HLl.out]; exact infoRc1T) ?_)
      (try rw [fold_buildT _ _ (by rw [HLl.out]; rfl)])
      refine hf3.mono ?_
      rintro e w11 ⟨rfl, hF11⟩
      have hF12 := HE.out.1.trans hF11
      have hZ11 := hF11.obj HE.out.2.2.1 (by simp)
      have hR11 := range_frS HE.out.2.2.2.1 hF11 (by simp)
      have hf4 := fitsT_any ⟨q.name, ls, q.mat⟩ r _ _ w11 (hX0.fr hF12) (HE.out.2.2.2.2.1.fr hF11) (HRV.out _ hF12) hls hmq
      rw [HE.out.2.2.2.2.2] at hf4
      clear y0 y1 y2 hf3
      obtain ⟨y0, y1, y2⟩ := cells3 hZ11 (Fr.refl [] w11)
      have H11 := Lib.hid (And.intro hF12 hR11)
      clear hF11 hF12 hZ11 hR11
      go_wp2_with (refine wpList_load_if (by rfl) 39 (.tmp 5) rfl (X + 1) 0 (by simp [Act.eval]) L _ H11.out.2 Tryz.underlying39 rfl (by rw [HLl.out]; exact infoRc1T) ?_)
      (try rw [fold_buildT _ _ (by rw [HLl.out]; rfl)])
      refine hf4.mono ?_
      rintro e w12 ⟨rfl, hF12⟩
      have hFz := H11.out.1.trans hF12
      have hk := knownT_any w12 (hG.frn hFz h8) (Nat.le_trans h8 hFz.size)
      have HF := Lib.hid hFz
      clear hF12 hFz y0 y1 y2 hf4
      go_wp2_with fail
      refine hk.mono ?_
      rintro e w13 ⟨rfl, hF13⟩
      go_wp2_with fail
      go_ret
      exact ⟨rfl, HF.out.trans hF13⟩
end Go.Proofs.YtdhmloejgoacaaaGreatDoor
