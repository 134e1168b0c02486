/- The reference's Lent of one record. -/
import Derived.Test.YtaniaknphjnlkaaGreatDoorMf37
import Derived.Deep.MidRow
import Derived.Deep.WholeRow
import Derived.Deep.Upon
import Derived.Deep.AppendLies
namespace Go.Proofs.YtaniaknphjnlkaaGreatDoor
open Go.RowKit Go.Bl Go.Lq

theorem infoAt : (Tryz.prog.info? 77).map (fun i => (i.zero, i.size, i.bytes)) = some (some (.agg #[.string ⟨#[]⟩, .string ⟨#[]⟩]), 2, 32) := by kernel_rfl
theorem infoRcS : (Tryz.prog.info? 39).map (fun i => (i.size, i.bytes, i.zero.map (·.cells.size))) = some (40, 128, some 40) := by kernel_rfl
theorem infoRc1 : (Tryz.prog.info? 39).map (·.size) = some 40 := by kernel_rfl
theorem infoRc : ∃ i z, Tryz.prog.info? 39 = some i ∧ i.zero = some z ∧ i.size = 40 ∧ i.bytes = 128 ∧ z.cells.size = 40 := by
  have h := infoRcS
  cases hq : Tryz.prog.info? 39 with
  | none => simp [hq] at h
  | some i =>
    simp only [hq, Option.map_some, Option.some.injEq, Prod.mk.injEq] at h
    obtain ⟨h1, h2, h3⟩ := h
    obtain ⟨z, hz, hzs⟩ := Option.map_eq_some_iff.1 h3
    exact ⟨i, z, rfl, hz, h1, h2, hzs⟩
def atCells (l : List At) : List Value := l.flatMap fun m => [.string ⟨m.key.toArray⟩, .string ⟨m.val.toArray⟩]
theorem atCells_length (l : List At) : (atCells l).length = l.length * 2 := by
  induction l with
  | nil => rfl
  | cons m l ih => simp [atCells] at ih ⊢; omega
theorem atCells_get : ∀ (l : List At) (i : Nat) (h : i < l.length), (atCells l)[i * 2]? = some (.string ⟨l[i].key.toArray⟩) ∧ (atCells l)[i * 2 + 1]? = some (.string ⟨l[i].val.toArray⟩)
  | m :: l, 0, _ => ⟨rfl, rfl⟩
  | m :: l, i + 1, h => by
    have ih := atCells_get l i (by simpa using h)
    have e : atCells (m :: l) = .string ⟨m.key.toArray⟩ :: .string ⟨m.val.toArray⟩ :: atCells l := rfl
    rw [e, show (i + 1) * 2 = i * 2 + 1 + 1 by omega]
    simpa using ih
theorem atCells_one (l : List At) : ∀ u ∈ atCells l, u.oneCell' = true := by
  intro u hu
  unfold atCells at hu
  obtain ⟨m, hm, h⟩ := List.mem_flatMap.1 hu
  simp only [List.mem_cons, List.not_mem_nil, or_false] at h
  rcases h with rfl | rfl <;> rfl
theorem atCells_at {w : World} {ad : Addr} {l : List At} (h : ∀ i (hi : i < l.length), AtAt w (ad.add (i * 2)) l[i]) : ∀ j u, (atCells l)[j]? = some u → w.cell? (ad.add j) = some u := by
  intro j u hj
  have hjl : j < l.length * 2 := by rw [← atCells_length]; exact (List.getElem?_eq_some_iff.1 hj).1
  have hi : j / 2 < l.length := by omega
  obtain ⟨h0, h1⟩ := h (j / 2) hi
  obtain ⟨e0, e1⟩ := atCells_get l (j / 2) hi
  have hs' : ad.spot = none := by
    have hs := World.cell?_spot (h 0 (by omega)).1
    simpa [Addr.add] using hs
  have ha : ∀ k, ad.add k = ⟨ad.block, ad.off + k, none⟩ := by
    intro k
    obtain ⟨b, o, s⟩ := ad
    simp only at hs'
    subst hs'
    unfold Addr.add
    split <;> simp_all
  rw [ha] at h0 h1 ⊢
  rcases (by omega : j = j / 2 * 2 ∨ j = j / 2 * 2 + 1) with e | e
  · rw [e] at hj ⊢; rw [e0] at hj; cases hj; exact h0
  · rw [e] at hj ⊢; rw [e1] at hj; cases hj; rw [← Nat.add_assoc]; exact h1
theorem Ats.ofRow {w : World} {B : Nat} {v : Value} {l : List At} (h : w.ownsRow B 77 2 v l.length (atCells l)) (hl : l.length ≤ 9223372036854775807) : Ats w v l := by
  rcases hr : h.2 with ⟨rfl, h0⟩ | ⟨g, cap, cur, rfl, hb, hg, rest⟩
  · have : l = [] := List.eq_nil_of_length_eq_zero h0
    subst this
    exact Ats.nil w
  · refine ⟨_, _, rfl, hl, fun i hi => ⟨_, rfl, ?_⟩⟩
    have hc := h.cells (g := g) rfl
    obtain ⟨a0, a1⟩ := atCells_get l i hi
    have b0 := hc _ _ a0
    have b1 := hc _ _ a1
    rw [add_at] at b0 b1 ⊢
    exact ⟨b0, b1⟩
theorem add_block' (ad : Addr) (k : Nat) : (ad.add k).block = ad.block := by unfold Addr.add; split <;> rfl
theorem Ats.frS {S : List Nat} {w w' : World} {A : Option Addr} {n c : Nat} {l : List At} (h : Ats w (.slice A n c) l) (hF : Fr S w w') (hA : ∀ ad, A = some ad → ad.block ∉ S) : Ats w' (.slice A n c) l := by
  obtain ⟨A', cap, e, hl, hx⟩ := h
  simp only [Value.slice.injEq] at e
  obtain ⟨rfl, rfl, rfl⟩ := e
  refine ⟨A, c, rfl, hl, fun i hi => ?_⟩
  obtain ⟨ad, ha, h0, h1⟩ := hx i hi
  subst ha
  have hn := hA ad rfl
  exact ⟨ad, rfl, cell_frS hF h0 (by rw [add_block']; exact hn), cell_frS hF h1 (by simpa [add_block'] using hn)⟩
theorem append_ats (w : World) (ty : TypeId) (v : Value) (l : List At) (h : Ats w v l) (hl : l.length ≤ 2000000) :
    ∃ A cap w', (Builtin.append_ #[35, 35] ty #[.slice none 0 0, v]).run Tryz.prog w = .ok (.slice A l.length cap) w' ∧ Ats w' (.slice A l.length cap) l ∧ Fr [] w w' ∧ ∀ ad, A = some ad → w.heap.size ≤ ad.block := by
  obtain ⟨i0, hi0, hz0, hz1, hz2⟩ := info_parts infoAt
  obtain ⟨A, cp, rfl, hl0, hx⟩ := h
  rcases Nat.eq_zero_or_pos l.length with h0 | h0
  · obtain rfl : l = [] := List.eq_nil_of_length_eq_zero h0
    refine ⟨none, 0, _, run_append_nothing w _ _ ty 77 i0 Tryz.underlying35 hi0 none 0 0 (Nat.le_refl _) (.slice A 0 cp) ?_, Ats.nil w, Fr.refl _ _, fun ad e => by cases e⟩
    cases A with
    | none => exact Src.ofNil w Tryz.underlying35 cp
    | some ad => exact Src.ofSlice w Tryz.underlying35 ad 0 cp [] (by simp) (by simp) (by simp)
  · obtain ⟨ad, rfl, _⟩ := hx 0 h0
    have hx' : ∀ i (hi : i < l.length), AtAt w (ad.add (i * 2)) l[i] := fun i hi => by
      obtain ⟨ad', e, hm⟩ := hx i hi
      cases e
      exact hm
    obtain ⟨g, cap, w', hr, hown, hgrow, hat, _⟩ := run_append_lies (P := Tryz.prog) w 35 ty w.heap.size 77 i0 _ 2 32 Tryz.underlying35 hi0 hz0 hz1 hz2 rfl (by omega) (.slice none 0 0) 0 [] (World.ownsRow_nil _ _ _ _) ad l.length cp (atCells l) (atCells_length l) (atCells_at hx') (atCells_one l) h0 (by unfold maxLen; omega) (by omega) (Nat.le_refl _) w.heap.size rfl
    rw [Nat.zero_add, List.nil_append] at hown
    rw [Nat.zero_add] at hr
    refine ⟨_, _, _, hr, Ats.ofRow hown (by omega), fr_grown hgrow, fun ad e => ?_⟩
    cases e
    rcases hat with h | h
    · cases h
    · exact Nat.le_of_eq h.symm
theorem step_append_ats {ops : Array Oper} {o : Oper} {a : Act} {K : Act → World → Prop} {Q : Exit → Act → World → Prop} {E : Prop} {w : World} (hgd : o.guard = none) (s x : Operand)
    (ho : o.op = .call { callee := .builtin .append, args := #[s, x], argTypes := #[35, 35] }) (hs : a.eval s = .slice none 0 0) (v : Value) (hx : a.eval x = v) (l : List At) (hM : Ats w v l) (hl : l.length ≤ 2000000)
    (h : ∀ A cap w', Ats w' (.slice A l.length cap) l → Fr [] w w' → (∀ ad, A = some ad → w.heap.size ≤ ad.block) → K (a.put o.dst (.slice A l.length cap)) w') :
    if Region.wanted o (yielded ops a.tmps) = true then Oper.wp Tryz.prog o a w K Q else E := by
  have hw : Region.wanted o (yielded ops a.tmps) = true := by simp [Region.wanted, hgd]
  rw [if_pos hw]
  obtain ⟨A, cap, w', hr, h1, h2, h3⟩ := append_ats w o.type v l hM hl
  unfold Oper.wp execOp
  simp only [ho, resolve, invoke, builtin, Sem.run_bind, Sem.run_pure, Result.andThen_ok, List.map_toArray, List.map_cons, List.map_nil, hs, hx, hr]
  exact h A cap w' h1 h2 h3
theorem wpList_store_new {P : Program} {ops : Array Oper} {rest : List Oper} {op : Oper} {a : Act} {Q : Exit → Act → World → Prop} (hgd : op.guard = none) (ty : TypeId) (x y : Operand) (ho : op.op = .store ty x y)
    (w0 : World) (c c' : Array Value) (hx : a.eval x = .pointer (some ⟨w0.heap.size, 0, none⟩)) (hy : a.eval y = .agg c') (hi : (P.info? ty).map (·.size) = some c'.size) (hs : c.size = c'.size) (h1 : c'.all (·.oneCell') = true)
    (h : wpList P ops Q rest (a.put op.dst undef) (w0.alloc (.cells c' ty))) : wpList P ops Q (op :: rest) a (w0.alloc (.cells c ty)) := by
  refine wpList_plain hgd fun _ hK => ?_
  unfold Oper.wp execOp
  simp only [ho, hx, hy, Instr.storeAt, Instr.sureAddr, Sem.run_bind, Sem.run_pure, Result.andThen_ok, run_storeVar_new w0 ty c c' hi hs h1]
  exact hK _ _ h
theorem rcList_one (a : Value) (r : Rc) (ha : a.oneCell' = true) : ∀ u ∈ rcList a r, u.oneCell' = true := by
  intro u hu
  simp only [rcList, List.mem_cons, List.mem_append] at hu
  have hb : ∀ l : Bs, u ∈ Lib.byteCells l → u.oneCell' = true := by
    intro l h
    unfold Lib.byteCells at h
    obtain ⟨b, _, rfl⟩ := List.mem_map.1 h
    rfl
  rcases hu with rfl | rfl | rfl | rfl | rfl | rfl | rfl | rfl | h | h | h
  all_goals first | rfl | exact ha | exact hb _ h
theorem rc_set2 (a x : Value) (r : Rc) : (rcList a r).toArray.setIfInBounds 2 x = (rcList x r).toArray := by simp [rcList]
theorem append_rec (w : World) (ty : TypeId) (B : Nat) (LN : List Value) (hl : LN.length = 40) (h1 : ∀ u ∈ LN, u.oneCell' = true) (hb : w.heap[B]? = some (.cells LN.toArray 39 (0, 0))) :
    ∃ g cap w', (Builtin.append_ #[40, 40] ty #[.slice none 0 0, .slice (some ⟨B, 0, none⟩) 1 1]).run Tryz.prog w = .ok (.slice (some ⟨g, 0, none⟩) 1 cap) w' ∧ w'.rangeAt g 0 LN ∧ Fr [] w w' := by
  obtain ⟨i0, z0, hi0, hz0, hz1, hz2, hz3⟩ := infoRc
  obtain ⟨g, cap, w', hr, hown, hgrow, hat, _⟩ := run_append_lies (P := Tryz.prog) w 40 ty w.heap.size 39 i0 z0 40 128 Tryz.underlying40 hi0 hz0 hz1 hz2 hz3 (by omega) (.slice none 0 0) 0 [] (World.ownsRow_nil _ _ _ _) ⟨B, 0, none⟩ 1 1 LN (by omega) (World.news_of_block hb) h1 (by omega) (by unfold maxLen; omega) (by omega) (Nat.le_refl _) w.heap.size rfl
  rw [Nat.zero_add, List.nil_append] at hown
  rw [Nat.zero_add] at hr
  refine ⟨g, cap, w', hr, fun j v hv => ?_, fr_grown hgrow⟩
  have := hown.cells (g := g) rfl j v hv
  rw [add_at] at this
  rw [Nat.zero_add]
  exact this
theorem wpList_append_rec {ops : Array Oper} {rest : List Oper} {o : Oper} {a : Act} {Q : Exit → Act → World → Prop} {w : World} (hgd : o.guard = none) (s x : Operand)
    (ho : o.op = .call { callee := .builtin .append, args := #[s, x], argTypes := #[40, 40] }) (hs : a.eval s = .slice none 0 0) (LN : List Value) (C : Array Value) (hC : C = LN.toArray) (hx : a.eval x = .slice (some ⟨w.heap.size, 0, none⟩) 1 1) (hl : LN.length = 40) (h1 : ∀ u ∈ LN, u.oneCell' = true)
    (h : ∀ g cap w', w'.rangeAt g 0 LN → Fr [] (w.alloc (.cells C 39)) w' → wpList Tryz.prog ops Q rest (a.put o.dst (.slice (some ⟨g, 0, none⟩) 1 cap)) w') : wpList Tryz.prog ops Q (o :: rest) a (w.alloc (.cells C 39)) := by
  subst hC
  obtain ⟨g, cap, w', hr, h2, h3⟩ := append_rec (w.alloc (.cells LN.toArray 39)) o.type w.heap.size LN hl h1 (heap_alloc w _)
  refine wpList_plain hgd fun _ hK => ?_
  unfold Oper.wp execOp
  simp only [ho, resolve, invoke, builtin, Sem.run_bind, Sem.run_pure, Result.andThen_ok, List.map_toArray, List.map_cons, List.map_nil, hs, hx, hr]
  exact hK _ _ (h g cap w' h2 h3)
theorem fold_at {α : Type} : ∀ (L : List α) (k : Nat) (Z : Array α) (i : Nat), ((L.zipIdx k).foldl (fun cs x => cs.setIfInBounds x.2 x.1) Z)[i]? = if k ≤ i ∧ i < k + L.length ∧ i < Z.size then L[i - k]? else Z[i]?
  | [], k, Z, i => by
    rw [if_neg (by simp; omega)]
    rfl
  | x :: L, k, Z, i => by
    rw [List.zipIdx_cons, List.foldl_cons, fold_at L (k + 1) _ i, Array.size_setIfInBounds, Array.getElem?_setIfInBounds]
    simp only [List.length_cons]
    by_cases h1 : i = k
    · subst h1
      rw [if_neg (by omega), if_pos rfl]
      by_cases h2 : i < Z.size
      · rw [if_pos h2, if_pos (by omega)]
        simp
      · rw [if_neg h2, if_neg (by omega), Array.getElem?_eq_none (by omega)]
    · have hk : ¬ k = i := fun h => h1 h.symm
      rw [if_neg hk]
      by_cases h3 : k + 1 ≤ i ∧ i < k + 1 + L.length ∧ i < Z.size
      · rw [if_pos h3, if_pos (by omega)]
        have : i - k = (i - (k + 1)) + 1 := by omega
        rw [this]
        rfl
      · rw [if_neg h3, if_neg (by omega)]
theorem fold_build {α : Type} (Z : Array α) (L : List α) (h : Z.size = L.length) : L.zipIdx.foldl (fun cs x => cs.setIfInBounds x.2 x.1) Z = L.toArray := by
  apply Array.ext_getElem?
  intro i
  rw [fold_at L 0 Z i]
  by_cases hi : i < L.length
  · rw [if_pos (by omega)]
    simp
  · rw [if_neg (by omega), Array.getElem?_eq_none (by omega)]
    simp
    omega
def LRel (w : World) (r : Rc) (iv sv : Value) (wr : World) : Prop :=
  (iv = .int .i64 0 ∧ sv = .slice none 0 0 ∧ Fr [] w wr) ∨
  (iv = .int .i64 1 ∧ ∃ g cap A ca, sv = .slice (some ⟨g, 0, none⟩) 1 cap ∧ Fr [] w wr ∧ wr.rangeAt g 0 (rcList (.slice A r.attrs.length ca) r) ∧ Ats wr (.slice A r.attrs.length ca) r.attrs)
set_option maxRecDepth 100000 in
set_option maxHeartbeats 1600000 in
/-- Of a slice of one record. -/
theorem lentR_any (r : Rc) (b : Nat) (AA : Option Addr) (ca : Nat) (w : World) (hb : w.heap[b]? = some (.cells (rcList (.slice AA r.attrs.length ca) r).toArray 39 (0, 0))) (hat : Ats w (.slice AA r.attrs.length ca) r.attrs)
    (h1 : r.trace.length = 16) (h2 : r.id.length = 8) (h3 : r.parent.length = 8) (hls : r.attrs.length ≤ 2000000) :
    Calls Tryz.prog 15 #[.slice (some ⟨b, 0, none⟩) 1 1] w fun e w' => ∃ g cap A ca', e = .returned (.slice (some ⟨g, 0, none⟩) 1 cap) ∧ Fr [] w w' ∧ w'.rangeAt g 0 (rcList (.slice A r.attrs.length ca') r) ∧ Ats w' (.slice A r.attrs.length ca') r.attrs := by
  obtain ⟨L, hL⟩ : ∃ L, rcList (.slice AA r.attrs.length ca) r = L := ⟨_, rfl⟩
  obtain ⟨L0, hL0⟩ : ∃ L, rcList (.slice none 0 0) r = L := ⟨_, rfl⟩
  have hset : L.toArray.setIfInBounds 2 (.slice none 0 0) = L0.toArray := by rw [← hL, ← hL0]; exact rc_set2 _ _ r
  have hLl : L.length = 40 := by rw [← hL]; exact rcList_len _ h1 h2 h3
  have hL1 : ∀ u ∈ L, u.oneCell' = true := by rw [← hL]; exact rcList_one _ r rfl
  have hsz : L.toArray.size = 40 := by simpa using hLl
  have hall : L.toArray.all (·.oneCell') = true := all_oneCell_toArray hL1
  have hrg : w.rangeAt b 0 L := by
    intro j v hv
    rw [Nat.zero_add, cell_of hb j, hL]
    simpa using hv
  have c2 : w.cell? ⟨b, 2, none⟩ = some (.slice AA r.attrs.length ca) := cell_of hb 2
  obtain ⟨i0, z0, hi0, hz0, hz1, hz2, hz3⟩ := infoRc
  have HB := Lib.hid (And.intro hb (And.intro hat (And.intro hrg (And.intro hL (And.intro hL0 (And.intro hLl (And.intro hL1 (And.intro hset hz3))))))))
  have HZ := Lib.hid (And.intro hsz hall)
  clear hb hat hrg hL hL0 hLl hL1 hsz hall hz3
  go_enter Tryz.func15, Tryz.ntmps15
  go_wp2_with fail
  go_loopw [4, 3] (fun iv sv wr => LRel w r iv sv wr) (fun iv _ _ => 1 - (intOf iv).toNat)
  case atStart => exact .inl ⟨rfl, rfl, Fr.refl _ _⟩
  case round =>
    rcases hrel with ⟨rfl, rfl, hF⟩ | ⟨rfl, g, cap, A, ca', rfl, hF, hr, ha⟩
    · have d2 := cell_frS hF c2 (by simp)
      have HF := Lib.hid hF
      clear hF
      have k2 : (wr.alloc (.cells L.toArray 39)).cell? ⟨wr.heap.size, 2, none⟩ = some (.slice AA r.attrs.length ca) := by
        rw [cell_of (heap_alloc wr _) 2, ← HB.out.2.2.2.1]; rfl
      obtain ⟨WZ, hWZ⟩ : ∃ WZ, wr.alloc (.cells L0.toArray 39) = WZ := ⟨_, rfl⟩
      have hZB : WZ.heap[wr.heap.size]? = some (.cells (rcList (.slice none 0 0) r).toArray 39 (0, 0)) := by rw [← hWZ, HB.out.2.2.2.2.1]; exact heap_alloc wr _
      have hFZ : Fr [] wr WZ := by rw [← hWZ]; exact (Fr.refl _ _).alloc _
      have n2 : WZ.cell? ⟨wr.heap.size, 2, none⟩ = some (.slice none 0 0) := cell_of hZB 2
      have nf := frozen_of hZB
      have e2 := cell_frS hFZ d2 (by simp)
      have hatZ := HB.out.2.1.fr (HF.out.trans hFZ)
      have HZZ := Lib.hid (And.intro hZB (And.intro hFZ hatZ))
      clear hZB hFZ hatZ
      go_wp2_with (first | (refine wpList_load_mid rfl 39 (.tmp 14) rfl b 0 (by simp [Act.eval, Addr.add]) L _ (fun j v hv => cell_frS HF.out (HB.out.2.2.1 j v hv) (by simp)) Tryz.underlying39 rfl (by rw [HB.out.2.2.2.2.2.1]; exact infoRc1) ?_) | (refine wpList_store_new rfl 39 (.tmp 5) (.tmp 15) rfl wr _ L.toArray (by simp [Act.eval]) (by simp [Act.eval]) (by rw [HZ.out.1]; exact infoRc1) (by rw [HZ.out.1]; rfl) HZ.out.2 ?_))
      (try rw [hWZ])
      clear hWZ k2 d2
      go_region_law (first | (refine step_append_ats rfl (.tmp 18) (.tmp 23) rfl (by simp [Act.eval]) (.slice AA r.attrs.length ca) (by simp [Act.eval]) r.attrs (HZZ.out.2.2.fr (by (repeat (first | with_reducible exact Fr.refl _ _ | with_reducible refine Fr.drew ?_)))) hls ?_; intro A2 ca2 w2 hat2 hF2 hn2; have hb2 := hF2.obj (show _ = some (Obj.cells (rcList (.slice none 0 0) r).toArray 39 (0, 0)) from HZZ.out.1) (by simp); have m2 : w2.cell? ⟨wr.heap.size, 2, none⟩ = some (.slice none 0 0) := cell_of hb2 2; have mf := frozen_of hb2; have HH2 := Lib.hid (And.intro hat2 (And.intro hF2 (And.intro hn2 hb2))); clear hat2 hF2 hn2 hb2))
      all_goals
        obtain ⟨WN, hWN⟩ : ∃ WN, w2.setCell ⟨wr.heap.size, 2, none⟩ (.slice A2 r.attrs.length ca2) = WN := ⟨_, rfl⟩
        (try rw [hWN])
        have hNB : WN.heap[wr.heap.size]? = some (.cells (rcList (.slice A2 r.attrs.length ca2) r).toArray 39 (0, 0)) := by
          rw [← hWN, heap_setCell HH2.out.2.2.2 2 (.slice A2 r.attrs.length ca2), rc_set2]
        have hFN : Fr [wr.heap.size] w2 WN := by rw [← hWN]; exact (Fr.refl _ _).setCell (.inl (by simp)) _
        obtain ⟨LN, hLN⟩ : ∃ LN, rcList (.slice A2 r.attrs.length ca2) r = LN := ⟨_, rfl⟩
        have hNr : WN.rangeAt wr.heap.size 0 LN := by
          intro j v hv
          rw [Nat.zero_add, cell_of hNB j, hLN]
          simpa using hv
        have hLNl : LN.length = 40 := by rw [← hLN]; exact rcList_len _ h1 h2 h3
        have hLN1 : ∀ u ∈ LN, u.oneCell' = true := by rw [← hLN]; exact rcList_one _ r rfl
        have hln : LN.length = 40 := hLNl
        have hwN : w.heap.size ≤ WN.heap.size := by have h1 := HF.out.size; have h2 := HZZ.out.2.1.size; have h3 : WZ.heap.size ≤ w2.heap.size := HH2.out.2.1.size; have h4 := hFN.size; omega
        have HN := Lib.hid (And.intro hNB (And.intro hFN (And.intro hNr (And.intro hLNl (And.intro hLN1 hLN)))))
        clear hNB hFN hNr hLNl hLN1 hLN hWN m2 mf n2 nf e2
        go_wp2_with (first | (refine wpList_load_mid rfl 39 (.tmp 5) rfl wr.heap.size 0 (by simp [Act.eval]) LN _ HN.out.2.2.1 Tryz.underlying39 rfl (by rw [HN.out.2.2.2.1]; exact infoRc1) ?_) | (at_builtin; refine wpList_append_rec rfl (.tmp 26) (.tmp 28) rfl (by simp [Act.eval]) LN _ (fold_build _ _ (by rw [HN.out.2.2.2.1]; rfl)) (by simp [Act.eval]) HN.out.2.2.2.1 HN.out.2.2.2.2.1 ?_; intro gg cap' w3 hr3 hF3))
        have hT : Fr [wr.heap.size] w2 w3 := HN.out.2.1.trans ((((Fr.refl [] WN).alloc _).trans hF3).mono (T := [wr.heap.size]) (by simp))
        have hsz2 : WZ.heap.size ≤ w2.heap.size := HH2.out.2.1.size
        have hszw := HF.out.size
        have hszZ : wr.heap.size < WZ.heap.size := lt_of_obj HZZ.out.1
        refine ⟨.inr ⟨rfl, gg, cap', A2, ca2, rfl, ((HF.out.trans HZZ.out.2.1).trans HH2.out.2.1.of_drew).new hT (by simp; omega), (by rw [HN.out.2.2.2.2.2]; exact hr3), HH2.out.1.frS hT (fun ad e => ?_)⟩, by simp [intOf]⟩
        have h5 : WZ.heap.size ≤ ad.block := HH2.out.2.2.1 ad e
        simp only [List.mem_singleton]
        omega
    · go_wp2_with fail
      go_ret
      exact ⟨g, cap, A, ca', rfl, hF, hr, ha⟩
end Go.Proofs.YtaniaknphjnlkaaGreatDoor
