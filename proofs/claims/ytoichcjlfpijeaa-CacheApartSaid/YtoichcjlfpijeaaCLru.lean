/- The list by keys: its ring with what it holds; out, first over it. -/
import Derived.Test.YtoichcjlfpijeaaCSeg
import Derived.Test.YtoichcjlfpijeaaQOpsAt
namespace Go.Proofs.Ytoichcjlfpijeaa
open Go.RowKit Go.Bl

structure Ent1 where
  k : ByteArray
  s : ByteArray
  t : ByteArray

/-- A node: where it lies, what it holds. -/
structure NodeO (w : World) (x : Nat × Ent1) : Prop where
  k : w.cell? ⟨x.1, 0, none⟩ = some (.string x.2.k)
  s : w.cell? ⟨x.1, 1, none⟩ = some (.string x.2.s)
  t : w.cell? ⟨x.1, 2, none⟩ = some (.string x.2.t)
  a : (w.cell? ⟨x.1, 3, none⟩).isSome = true
  n : (w.cell? ⟨x.1, 4, none⟩).isSome = true
  f : ∀ o, w.frozen? ⟨x.1, o, none⟩ = false

/-- What a call of the ring's leaves: the low cells, what is frozen, the size. -/
structure Low (w w' : World) : Prop where
  cell : ∀ b o v, o < 3 → w.cell? ⟨b, o, none⟩ = some v → w'.cell? ⟨b, o, none⟩ = some v
  some : ∀ a, (w.cell? a).isSome = true → (w'.cell? a).isSome = true
  fz : ∀ a, w'.frozen? a = w.frozen? a
  size : w'.heap.size = w.heap.size
theorem Low.refl (w : World) : Low w w := ⟨fun _ _ _ _ h => h, fun _ h => h, fun _ => rfl, rfl⟩
theorem Low.trans {a b c : World} (h : Low a b) (k : Low b c) : Low a c :=
  ⟨fun b o v ho hv => k.cell b o v ho (h.cell b o v ho hv), fun x hx => k.some x (h.some x hx), fun x => (k.fz x).trans (h.fz x), k.size.trans h.size⟩
theorem Low.drewN {a b : World} (h : Low a b) (n : Nat) : Low a (b.drewN n) := ⟨h.cell, h.some, h.fz, h.size⟩
theorem Low.setCell {a b : World} (h : Low a b) {p : Addr} (hp : 3 ≤ p.off) (v : Value) : Low a (b.setCell p v) := by
  refine ⟨fun b' o u ho hu => (sc_other b v (fun e => by rw [e] at hp; dsimp only at hp; omega)).trans (h.cell b' o u ho hu), fun x hx => ?_, fun x => ?_, ?_⟩
  · by_cases e : p = x
    · subst e
      obtain ⟨u, hu⟩ := Option.isSome_iff_exists.1 (h.some p hx)
      rw [sc_same v hu]; rfl
    · rw [sc_other b v e]; exact h.some x hx
  · rw [World.frozen?_setCell]; exact h.fz x
  · rw [← h.size]; simp [World.setCell]
theorem NodeO.low {w w' : World} {x : Nat × Ent1} (h : NodeO w x) (hl : Low w w') : NodeO w' x :=
  ⟨hl.cell _ _ _ (by omega) h.k, hl.cell _ _ _ (by omega) h.s, hl.cell _ _ _ (by omega) h.t, hl.some _ h.a, hl.some _ h.n, fun o => (hl.fz _).trans (h.f o)⟩

structure RingO (w : World) (l : Nat) (N : List (Nat × Ent1)) : Prop where
  fl : ∀ o, w.frozen? ⟨l, o, none⟩ = false
  ring : Seg w (rt l) (N.map (·.1)) (rt l)
  dat : ∀ x ∈ N, NodeO w x
  nod : (l :: N.map (·.1)).Nodup

theorem drewN_cell (w : World) (n : Nat) (a : Addr) : (w.drewN n).cell? a = w.cell? a := rfl
theorem Seg.drewN {w : World} (n : Nat) : ∀ {ps : List Nat} {x y : Addr}, Seg w x ps y → Seg (w.drewN n) x ps y
  | [], _, _, h => h
  | _ :: _, _, _, h => ⟨h.1, Seg.drewN n h.2⟩

theorem ring_block {w : World} {l : Nat} {N : List (Nat × Ent1)} (h : RingO w l N) {a : Addr} (ha : a = rt l ∨ ∃ p ∈ N.map (·.1), a = nd p) : a.block ∈ l :: N.map (·.1) ∧ ∀ o, w.frozen? ⟨a.block, o, none⟩ = false := by
  rcases ha with rfl | ⟨p, hp, rfl⟩
  · exact ⟨by simp, h.fl⟩
  · obtain ⟨x, hx, rfl⟩ := List.mem_map.1 hp
    exact ⟨List.mem_cons_of_mem _ hp, (h.dat x hx).f⟩

theorem out_ring {w : World} {l : Nat} {ls rs : List (Nat × Ent1)} {x : Nat × Ent1} (h : RingO w l (ls ++ x :: rs)) :
    Calls Try.prog 73 #[.pointer (some ⟨l, 0, none⟩), .pointer (some ⟨x.1, 0, none⟩)] w fun e w' => e = .returned (.tuple #[]) ∧ RingO w' l (ls ++ rs) ∧ NodeO w' x ∧ Low w w' ∧ Fr (l :: (ls ++ x :: rs).map (·.1)) w w' := by
  have hr := h.ring
  rw [List.map_append, List.map_cons] at hr
  obtain ⟨h1, h2⟩ := Seg.app.1 hr
  obtain ⟨a1, a2⟩ := h1.last
  obtain ⟨b1, b2⟩ := h2.head
  have pX := pl_last (pl_rt l) (ls.map (·.1))
  have pY := pl_head (pl_rt l) (rs.map (·.1))
  have cX := lastOf_cases (rt l) (ls.map (·.1))
  have cY := headOf_cases (rs.map (·.1)) (rt l)
  obtain ⟨X, hX⟩ : ∃ X, lastOf (rt l) (ls.map (·.1)) = X := ⟨_, rfl⟩
  obtain ⟨Y, hY⟩ : ∃ Y, headOf (rs.map (·.1)) (rt l) = Y := ⟨_, rfl⟩
  have hX2 := ring_block h (a := X) (by rw [← hX]; exact cX.imp id fun ⟨p, hp, e⟩ => ⟨p, by rw [List.map_append]; exact List.mem_append_left _ hp, e⟩)
  have hY2 := ring_block h (a := Y) (by rw [← hY]; exact cY.imp id fun ⟨p, hp, e⟩ => ⟨p, by rw [List.map_append, List.map_cons]; exact List.mem_append_right _ (List.mem_cons_of_mem _ hp), e⟩)
  rw [hX] at a1 a2 pX
  rw [hY] at b1 b2 pY
  have hne := nxt_ahd pX pY
  refine (out_any _ x.1 X Y w a1 b1 pX.1 pY.1 (by rw [a2]; rfl) (by rw [b2]; rfl) hne (hX2.2 _) (hY2.2 _)).mono ?_
  rintro e w' ⟨rfl, j, rfl⟩
  have hlow : Low w (((w.setCell (nxt X) (.pointer (some Y))).setCell (ahd Y) (.pointer (some X))).drewN j) := (((Low.refl w).setCell (by dsimp only; omega) _).setCell (by dsimp only; omega) _).drewN j
  have hFr : Fr (l :: (ls ++ x :: rs).map (·.1)) w (((w.setCell (nxt X) (.pointer (some Y))).setCell (ahd Y) (.pointer (some X))).drewN j) := ((Fr.setCell (p := ahd Y) (Fr.setCell (p := nxt X) (Fr.refl _ w) (.inl hX2.1) (.pointer (some Y))) (.inl hY2.1) (.pointer (some X)))).drewN j
  have hnod := h.nod
  rw [List.nodup_cons] at hnod
  refine ⟨rfl, ⟨fun o => (hlow.fz _).trans (h.fl o), ?_, fun y hy => (h.dat y ?_).low hlow, ?_⟩, (h.dat x (by simp)).low hlow, hlow, hFr⟩
  · refine Seg.drewN j ?_
    rw [List.map_append]
    refine Seg.out hr (by simpa using hnod.2) ?_ ?_
    · rw [hX, hY]
      intro a v ha h3 h4
      rw [sc_other _ _ (Ne.symm h4), sc_other _ _ (Ne.symm h3)]; exact ha
    · rw [hX, hY]
      exact ⟨(sc_other _ _ (Ne.symm hne)).trans (sc_same _ a2), sc_same _ ((sc_other _ _ hne).trans b2)⟩
  · rcases List.mem_append.1 hy with h3 | h3
    · exact List.mem_append_left _ h3
    · exact List.mem_append_right _ (List.mem_cons_of_mem _ h3)
  · have := h.nod
    rw [List.map_append, List.map_cons] at this
    rw [List.map_append]
    exact this.sublist ((List.Sublist.append (List.Sublist.refl _) (List.sublist_cons_self _ _)).cons_cons _)

theorem first_ring {w : World} {l : Nat} {N : List (Nat × Ent1)} {x : Nat × Ent1} (h : RingO w l N) (hx : NodeO w x) (hn : (l :: x.1 :: N.map (·.1)).Nodup) :
    Calls Try.prog 74 #[.pointer (some ⟨l, 0, none⟩), .pointer (some ⟨x.1, 0, none⟩)] w fun e w' => e = .returned (.tuple #[]) ∧ RingO w' l (x :: N) ∧ Low w w' ∧ Fr (l :: x.1 :: N.map (·.1)) w w' := by
  obtain ⟨b1, b2⟩ := h.ring.head
  have pY := pl_head (pl_rt l) (N.map (·.1))
  have cY := headOf_cases (N.map (·.1)) (rt l)
  obtain ⟨Y, hY⟩ : ∃ Y, headOf (N.map (·.1)) (rt l) = Y := ⟨_, rfl⟩
  have hY2 := ring_block h (a := Y) (by rw [← hY]; exact cY)
  rw [hY] at b1 b2 pY
  have hlp : l ≠ x.1 := by simp only [List.nodup_cons, List.mem_cons, not_or] at hn; exact hn.1.1
  have hn2 := (List.nodup_cons.1 hn).2
  have hYp : Y.block ≠ x.1 := by
    rw [← hY]
    rcases cY with e | ⟨p, hp, e⟩ <;> rw [e]
    · exact hlp
    · rintro rfl; exact (List.nodup_cons.1 hn2).1 hp
  have hne : nxt (rt l) ≠ ahd Y := nxt_ahd (pl_rt l) pY
  refine (first_any l x.1 Y w (Ne.symm hlp) hx.a hx.n b1 pY.1 (by rw [b2]; rfl) hYp hne hx.f (h.fl _) (hY2.2 _)).mono ?_
  rintro e w' ⟨rfl, j, rfl⟩
  have hlow : Low w (((((w.setCell ⟨x.1, 3, none⟩ (.pointer (some ⟨l, 2, none⟩))).setCell ⟨x.1, 4, none⟩ (.pointer (some Y))).setCell ⟨l, 6, none⟩ (.pointer (some ⟨x.1, 0, none⟩))).setCell (ahd Y) (.pointer (some ⟨x.1, 0, none⟩))).drewN j) :=
    (((((Low.refl w).setCell (by dsimp only; omega) _).setCell (by dsimp only; omega) _).setCell (by dsimp only; omega) _).setCell (by dsimp only; omega) _).drewN j
  have hFr : Fr (l :: x.1 :: N.map (·.1)) w (((((w.setCell ⟨x.1, 3, none⟩ (.pointer (some ⟨l, 2, none⟩))).setCell ⟨x.1, 4, none⟩ (.pointer (some Y))).setCell ⟨l, 6, none⟩ (.pointer (some ⟨x.1, 0, none⟩))).setCell (ahd Y) (.pointer (some ⟨x.1, 0, none⟩))).drewN j) := by
    have hYm : (ahd Y).block ∈ l :: x.1 :: N.map (·.1) := by
      have := hY2.1
      simp only [List.mem_cons] at this ⊢
      exact this.imp id .inr
    exact (Fr.setCell (p := ahd Y) (Fr.setCell (p := ⟨l, 6, none⟩) (Fr.setCell (p := ⟨x.1, 4, none⟩) (Fr.setCell (p := ⟨x.1, 3, none⟩) (Fr.refl _ w) (.inl (by simp)) (.pointer (some ⟨l, 2, none⟩))) (.inl (by simp)) (.pointer (some Y))) (.inl (by simp)) (.pointer (some ⟨x.1, 0, none⟩))) (.inl hYm) (.pointer (some ⟨x.1, 0, none⟩))).drewN j
  refine ⟨rfl, ⟨fun o => (hlow.fz _).trans (h.fl o), ?_, fun y hy => ?_, hn⟩, hlow, hFr⟩
  · refine Seg.drewN j ?_
    rw [List.map_cons]
    obtain ⟨v3, c3⟩ := Option.isSome_iff_exists.1 hx.a
    obtain ⟨v4, c4⟩ := Option.isSome_iff_exists.1 hx.n
    refine Seg.first h.ring hn2 ?_ hlp ?_ ?_
    · rw [hY]
      intro a v ha h3 h4 h5
      rw [sc_other _ _ (Ne.symm h4), sc_other _ _ (Ne.symm h3), sc_other _ _ (by rintro rfl; exact h5 rfl), sc_other _ _ (by rintro rfl; exact h5 rfl)]; exact ha
    · refine ⟨?_, ?_⟩
      · exact (sc_other _ _ (Ne.symm hne)).trans (sc_same _ ((sc_other _ _ (by simp)).trans ((sc_other _ _ (by simp)).trans b1)))
      · exact (sc_other _ _ (by rintro e; exact hYp (congrArg Addr.block e))).trans ((sc_other _ _ (by simp)).trans ((sc_other _ _ (by simp)).trans (sc_same _ c3)))
    · rw [hY]
      refine ⟨?_, ?_⟩
      · exact (sc_other _ _ (by rintro e; exact hYp (congrArg Addr.block e))).trans ((sc_other _ _ (by simp)).trans (sc_same _ ((sc_other _ _ (by simp)).trans c4)))
      · exact sc_same _ ((sc_other _ _ hne).trans ((sc_other _ _ (by rintro e; exact hYp (congrArg Addr.block e).symm)).trans ((sc_other _ _ (by rintro e; exact hYp (congrArg Addr.block e).symm)).trans b2)))
  · rcases List.mem_cons.1 hy with rfl | hy
    · exact hx.low hlow
    · exact (h.dat y hy).low hlow
end Go.Proofs.Ytoichcjlfpijeaa
