/- The ring of a list by keys: segments. -/
import Derived.Test.YtoichcjlfpijeaaCRing
namespace Go.Proofs.Ytoichcjlfpijeaa
open Go.RowKit Go.Bl

abbrev nd (p : Nat) : Addr := ⟨p, 0, none⟩
abbrev rt (l : Nat) : Addr := ⟨l, 2, none⟩
abbrev nxt (a : Addr) : Addr := ⟨a.block, a.off + 4, none⟩
abbrev ahd (a : Addr) : Addr := ⟨a.block, a.off + 3, none⟩
/-- x is ahead of y. -/
def Lk (w : World) (x y : Addr) : Prop := w.cell? (nxt x) = some (.pointer (some y)) ∧ w.cell? (ahd y) = some (.pointer (some x))
def Seg (w : World) : Addr → List Nat → Addr → Prop
  | x, [], y => Lk w x y
  | x, p :: ps, y => Lk w x (nd p) ∧ Seg w (nd p) ps y

theorem Seg.app {w : World} : ∀ {x y : Addr} {ls rs : List Nat} {p : Nat}, Seg w x (ls ++ p :: rs) y ↔ Seg w x ls (nd p) ∧ Seg w (nd p) rs y
  | _, _, [], _, _ => Iff.rfl
  | _, _, _ :: ls, rs, p => by
    simp only [List.cons_append, Seg, Seg.app (ls := ls) (rs := rs) (p := p), and_assoc]

theorem Seg.mono {w w' : World} : ∀ {ls : List Nat} {x y : Addr}, Seg w x ls y → (∀ u, u = x ∨ (∃ p ∈ ls, u = nd p) → ∀ v, w.cell? (nxt u) = some v → w'.cell? (nxt u) = some v) →
    (∀ u, u = y ∨ (∃ p ∈ ls, u = nd p) → ∀ v, w.cell? (ahd u) = some v → w'.cell? (ahd u) = some v) → Seg w' x ls y
  | [], _, _, h, h1, h2 => ⟨h1 _ (.inl rfl) _ h.1, h2 _ (.inl rfl) _ h.2⟩
  | p :: ls, x, y, h, h1, h2 => ⟨⟨h1 _ (.inl rfl) _ h.1.1, h2 _ (.inr ⟨p, by simp, rfl⟩) _ h.1.2⟩,
      Seg.mono h.2 (fun u hu => h1 u (.inr (hu.elim (fun e => ⟨p, by simp, e⟩) fun ⟨q, hq, e⟩ => ⟨q, by simp [hq], e⟩)))
        (fun u hu => h2 u (hu.elim .inl fun ⟨q, hq, e⟩ => .inr ⟨q, by simp [hq], e⟩))⟩

/-- What stands last ahead of y. -/
def lastOf : Addr → List Nat → Addr
  | x, [] => x
  | _, p :: ps => lastOf (nd p) ps
def headOf (ps : List Nat) (y : Addr) : Addr := (ps.map nd).headD y
theorem Seg.last {w : World} : ∀ {ls : List Nat} {x y : Addr}, Seg w x ls y → w.cell? (ahd y) = some (.pointer (some (lastOf x ls))) ∧ w.cell? (nxt (lastOf x ls)) = some (.pointer (some y))
  | [], _, _, h => ⟨h.2, h.1⟩
  | p :: ls, x, y, h => by
    have := Seg.last h.2
    exact this
theorem Seg.head {w : World} : ∀ {ls : List Nat} {x y : Addr}, Seg w x ls y → w.cell? (nxt x) = some (.pointer (some (headOf ls y))) ∧ w.cell? (ahd (headOf ls y)) = some (.pointer (some x))
  | [], _, _, h => h
  | _ :: _, _, _, h => h.1
theorem lastOf_cases : ∀ (x : Addr) (ps : List Nat), lastOf x ps = x ∨ ∃ p ∈ ps, lastOf x ps = nd p
  | _, [] => .inl rfl
  | x, p :: ps => by
    rcases lastOf_cases (nd p) ps with h | ⟨q, hq, h⟩
    · exact .inr ⟨p, by simp, h⟩
    · exact .inr ⟨q, by simp [hq], h⟩
theorem headOf_cases (ps : List Nat) (y : Addr) : headOf ps y = y ∨ ∃ p ∈ ps, headOf ps y = nd p := by
  cases ps with
  | nil => exact .inl rfl
  | cons p ps => exact .inr ⟨p, by simp, rfl⟩

/-- All cells but two are as they were. -/
def Keeps2 (w w' : World) (A B : Addr) : Prop := ∀ a v, w.cell? a = some v → a ≠ A → a ≠ B → w'.cell? a = some v
def Pl (a : Addr) : Prop := a.spot = none ∧ (a.off = 0 ∨ a.off = 2)
theorem pl_nd (p : Nat) : Pl (nd p) := ⟨rfl, .inl rfl⟩
theorem pl_rt (p : Nat) : Pl (rt p) := ⟨rfl, .inr rfl⟩
theorem nxt_ahd {u v : Addr} (hu : Pl u) (hv : Pl v) : nxt u ≠ ahd v := by
  intro h
  have := congrArg Addr.off h
  obtain ⟨_, h1⟩ := hu
  obtain ⟨_, h2⟩ := hv
  dsimp only at this
  omega
theorem nxt_inj {u v : Addr} (hu : Pl u) (hv : Pl v) (h : nxt u = nxt v) : u = v := by
  obtain ⟨ub, uo, us⟩ := u
  obtain ⟨vb, vo, vs⟩ := v
  obtain ⟨h1, _⟩ := hu
  obtain ⟨h2, _⟩ := hv
  simp only [Addr.mk.injEq] at h h1 h2 ⊢
  exact ⟨h.1, by omega, by rw [h1, h2]⟩
theorem ahd_inj {u v : Addr} (hu : Pl u) (hv : Pl v) (h : ahd u = ahd v) : u = v := by
  obtain ⟨ub, uo, us⟩ := u
  obtain ⟨vb, vo, vs⟩ := v
  obtain ⟨h1, _⟩ := hu
  obtain ⟨h2, _⟩ := hv
  simp only [Addr.mk.injEq] at h h1 h2 ⊢
  exact ⟨h.1, by omega, by rw [h1, h2]⟩
theorem nd_inj {p q : Nat} (h : nd p = nd q) : p = q := by simpa using h
theorem nd_rt (p l : Nat) : nd p ≠ rt l := by simp

theorem pl_last {x : Addr} (hx : Pl x) (ps : List Nat) : Pl (lastOf x ps) := by
  rcases lastOf_cases x ps with h | ⟨p, _, h⟩ <;> rw [h]
  · exact hx
  · exact pl_nd p
theorem pl_head {x : Addr} (hx : Pl x) (ps : List Nat) : Pl (headOf ps x) := by
  rcases headOf_cases ps x with h | ⟨p, _, h⟩ <;> rw [h]
  · exact hx
  · exact pl_nd p

/-- The last link is another one. -/
theorem Seg.relast {w w' : World} {z z' : Addr} {A B : Addr} (hB : ∀ u, Pl u → nxt u ≠ B) (hz : ∀ p, A ≠ ahd (nd p)) (hk : Keeps2 w w' A B) : ∀ {ls : List Nat} {a : Addr}, Pl a → Seg w a ls z → (∀ p ∈ ls, a ≠ nd p) → ls.Nodup →
    A = nxt (lastOf a ls) → (∀ p ∈ ls, B ≠ ahd (nd p)) → Lk w' (lastOf a ls) z' → Seg w' a ls z'
  | [], _, _, _, _, _, _, _, hl => hl
  | p :: ls, a, ha, h, hne, hnd, hA, hBl, hl => by
    have e : lastOf a (p :: ls) = lastOf (nd p) ls := rfl
    rw [e] at hA hl
    simp only [List.nodup_cons] at hnd
    have hp : ∀ q ∈ ls, nd p ≠ nd q := fun q hq e => hnd.1 (by rw [nd_inj e]; exact hq)
    refine ⟨⟨hk _ _ h.1.1 ?_ (hB a ha), hk _ _ h.1.2 (fun e => hz p e.symm) (fun e => hBl p (by simp) e.symm)⟩, Seg.relast hB hz hk (pl_nd p) h.2 hp hnd.2 hA (fun q hq => hBl q (by simp [hq])) hl⟩
    intro hh
    rw [hA] at hh
    have := nxt_inj ha (pl_last (pl_nd p) ls) hh
    rcases lastOf_cases (nd p) ls with h1 | ⟨q, hq, h1⟩
    · exact hne p (by simp) (this.trans h1)
    · exact hne q (by simp [hq]) (this.trans h1)

/-- p leaves the ring. -/
theorem Seg.out {w w' : World} {l p : Nat} {ls rs : List Nat} (h : Seg w (rt l) (ls ++ p :: rs) (rt l)) (hn : (ls ++ p :: rs).Nodup)
    (hk : Keeps2 w w' (nxt (lastOf (rt l) ls)) (ahd (headOf rs (rt l)))) (hl : Lk w' (lastOf (rt l) ls) (headOf rs (rt l))) : Seg w' (rt l) (ls ++ rs) (rt l) := by
  obtain ⟨h1, h2⟩ := Seg.app.1 h
  rw [List.nodup_append] at hn
  obtain ⟨n1, n2, n3⟩ := hn
  simp only [List.nodup_cons] at n2
  have ha : ∀ u, Pl u → nxt u ≠ ahd (headOf rs (rt l)) := fun u hu => nxt_ahd hu (pl_head (pl_rt l) rs)
  have hz : ∀ q, nxt (lastOf (rt l) ls) ≠ ahd (nd q) := fun q => nxt_ahd (pl_last (pl_rt l) ls) (pl_nd q)
  cases rs with
  | nil =>
    rw [List.append_nil]
    refine Seg.relast ha hz hk (pl_rt l) h1 (fun q _ e => nd_rt q l e.symm) n1 rfl (fun q hq e => ?_) hl
    have := ahd_inj (pl_rt l) (pl_nd q) e
    exact nd_rt q l this.symm
  | cons q qs =>
    rw [Seg.app]
    refine ⟨Seg.relast ha hz hk (pl_rt l) h1 (fun q _ e => nd_rt q l e.symm) n1 rfl (fun r hr e => ?_) hl, ?_⟩
    · have := nd_inj (ahd_inj (pl_nd q) (pl_nd r) e)
      exact n3 r hr q (by simp) this.symm
    · refine Seg.mono h2.2 (fun u hu v hv => hk _ _ hv (fun e => ?_) ?_) (fun u hu v hv => hk _ _ hv ?_ (fun e => ?_))
      · have hpu : Pl u := by rcases hu with rfl | ⟨r, _, rfl⟩ <;> exact pl_nd _
        have e2 := nxt_inj hpu (pl_last (pl_rt l) ls) e
        obtain ⟨r, hr, rfl⟩ : ∃ r ∈ q :: qs, u = nd r := by
          rcases hu with rfl | ⟨r, hr, rfl⟩
          · exact ⟨q, by simp, rfl⟩
          · exact ⟨r, by simp [hr], rfl⟩
        rcases lastOf_cases (rt l) ls with h3 | ⟨s, hs, h3⟩
        · rw [h3] at e2; exact nd_rt r l e2
        · rw [h3] at e2; exact n3 s hs r (List.mem_cons_of_mem _ hr) (nd_inj e2).symm
      · exact ha u (by rcases hu with rfl | ⟨r, _, rfl⟩ <;> exact pl_nd _)
      · refine Ne.symm (nxt_ahd (pl_last (pl_rt l) ls) ?_)
        rcases hu with rfl | ⟨r, _, rfl⟩
        · exact pl_rt l
        · exact pl_nd r
      · have hpu : Pl u := by
          rcases hu with rfl | ⟨r, _, rfl⟩
          · exact pl_rt l
          · exact pl_nd r
        have e2 := ahd_inj hpu (pl_nd q) e
        rcases hu with rfl | ⟨r, hr, rfl⟩
        · exact nd_rt q l e2.symm
        · have := nd_inj e2
          simp only [List.nodup_cons] at n2
          exact n2.2.1 (by rw [← this]; exact hr)

/-- p comes in as the first one. -/
theorem Seg.first {w w' : World} {l p : Nat} {ps : List Nat} (h : Seg w (rt l) ps (rt l)) (hn : (p :: ps).Nodup)
    (hk : ∀ a v, w.cell? a = some v → a ≠ nxt (rt l) → a ≠ ahd (headOf ps (rt l)) → a.block ≠ p → w'.cell? a = some v) (hlp : l ≠ p)
    (h1 : Lk w' (rt l) (nd p)) (h2 : Lk w' (nd p) (headOf ps (rt l))) : Seg w' (rt l) (p :: ps) (rt l) := by
  refine ⟨h1, ?_⟩
  rw [List.nodup_cons] at hn
  cases ps with
  | nil => exact h2
  | cons q qs =>
    refine ⟨h2, Seg.mono h.2 (fun u hu v hv => hk _ _ hv (fun e => ?_) ?_ ?_) (fun u hu v hv => hk _ _ hv ?_ (fun e => ?_) ?_)⟩
    · have hpu : Pl u := by rcases hu with rfl | ⟨r, _, rfl⟩ <;> exact pl_nd _
      have := nxt_inj hpu (pl_rt l) e
      rcases hu with rfl | ⟨r, _, rfl⟩ <;> exact nd_rt _ _ this
    · exact nxt_ahd (by rcases hu with rfl | ⟨r, _, rfl⟩ <;> exact pl_nd _) (pl_nd q)
    · rcases hu with rfl | ⟨r, hr, rfl⟩
      · intro e; exact hn.1 (by rw [← show q = p from e]; simp)
      · intro e; exact hn.1 (by rw [← show r = p from e]; simp [hr])
    · refine Ne.symm (nxt_ahd (pl_rt l) ?_)
      rcases hu with rfl | ⟨r, _, rfl⟩
      · exact pl_rt l
      · exact pl_nd r
    · have hpu : Pl u := by
        rcases hu with rfl | ⟨r, _, rfl⟩
        · exact pl_rt l
        · exact pl_nd r
      have e2 := ahd_inj hpu (pl_nd q) e
      rcases hu with rfl | ⟨r, hr, rfl⟩
      · exact nd_rt q l e2.symm
      · have := nd_inj e2
        exact (List.nodup_cons.1 hn.2).1 (by rw [← this]; exact hr)
    · rcases hu with rfl | ⟨r, hr, rfl⟩
      · exact hlp
      · intro e; exact hn.1 (by rw [← show r = p from e]; simp [hr])
end Go.Proofs.Ytoichcjlfpijeaa
