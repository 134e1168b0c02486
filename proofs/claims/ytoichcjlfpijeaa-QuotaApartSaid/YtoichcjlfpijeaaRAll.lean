/- The reference's table holds what the program's holds: each call by one contract. -/
import Derived.Test.YtoichcjlfpijeaaRDrop
import Derived.Test.YtoichcjlfpijeaaROps3
import Derived.Test.YtoichcjlfpijeaaQAll2
namespace Go.Proofs.Ytoichcjlfpijeaa
open Go.RowKit Go.Bl

/-- The bucket of a name. -/
def lookB : List RB → ByteArray → Option Bk
  | [], _ => none
  | x :: L, s => if x.name = s then some x.b else lookB L s

structure RT (w : World) (r : Nat) (T : ByteArray → Option Bk) (n : Nat) (F : List Nat) : Prop where
  ex : ∃ L, RTab w r L F ∧ (∀ s, lookB L s = T s) ∧ L.length = n ∧ (L.map (·.name)).Nodup ∧ ∀ x ∈ L, x.b.Ok

theorem RT.lt {w : World} {r : Nat} {T : ByteArray → Option Bk} {n : Nat} {F : List Nat} (h : RT w r T n F) : ∀ i ∈ F, i < w.heap.size := by
  obtain ⟨L, h1, _⟩ := h.ex
  exact h1.lt
theorem RT.fr {w w' : World} {r : Nat} {T : ByteArray → Option Bk} {n : Nat} {F S : List Nat} (h : RT w r T n F) (hF : Fr S w w') (hS : ∀ i ∈ F, i ∉ S) : RT w' r T n F := by
  obtain ⟨L, h1, h2⟩ := h.ex
  exact ⟨L, h1.fr hF hS, h2⟩

theorem lookB_none {L : List RB} {s : ByteArray} (h : ∀ x ∈ L, x.name ≠ s) : lookB L s = none := by
  induction L with
  | nil => rfl
  | cons x L ih =>
    simp only [List.mem_cons, forall_eq_or_imp] at h
    unfold lookB
    rw [if_neg h.1]; exact ih h.2
theorem lookB_at {L : List RB} (hn : (L.map (·.name)).Nodup) {k : Nat} {x : RB} (hx : L[k]? = some x) : lookB L x.name = some x.b := by
  induction L generalizing k with
  | nil => simp at hx
  | cons y L ih =>
    simp only [List.map_cons, List.nodup_cons] at hn
    unfold lookB
    cases k with
    | zero => simp only [List.getElem?_cons_zero, Option.some.injEq] at hx; rw [hx, if_pos rfl]
    | succ k =>
      simp only [List.getElem?_cons_succ] at hx
      rw [if_neg (fun e => hn.1 (by rw [e]; exact List.mem_map.2 ⟨x, List.mem_of_getElem? hx, rfl⟩))]
      exact ih hn.2 hx
theorem lookB_set {L : List RB} (hn : (L.map (·.name)).Nodup) {k : Nat} {x : RB} (hx : L[k]? = some x) (b : Bk) (s : ByteArray) : lookB (L.set k ⟨x.name, b⟩) s = if s = x.name then some b else lookB L s := by
  induction L generalizing k with
  | nil => simp at hx
  | cons y L ih =>
    simp only [List.map_cons, List.nodup_cons] at hn
    cases k with
    | zero =>
      simp only [List.getElem?_cons_zero, Option.some.injEq] at hx
      subst hx
      simp only [List.set_cons_zero, lookB]
      by_cases e : y.name = s
      · rw [if_pos e, if_pos e.symm]
      · rw [if_neg e, if_neg (fun h => e h.symm), if_neg e]
    | succ k =>
      simp only [List.getElem?_cons_succ] at hx
      have hy : y.name ≠ x.name := fun e => hn.1 (by rw [e]; exact List.mem_map.2 ⟨x, List.mem_of_getElem? hx, rfl⟩)
      simp only [List.set_cons_succ, lookB, ih hn.2 hx]
      by_cases e : y.name = s
      · rw [if_pos e, if_pos e, if_neg (fun h => hy (e.trans h))]
      · rw [if_neg e, if_neg e]
theorem names_set {L : List RB} {k : Nat} {x : RB} (hx : L[k]? = some x) (b : Bk) : (L.set k ⟨x.name, b⟩).map (·.name) = L.map (·.name) := by
  rw [List.map_set]
  have : (L.map (·.name))[k]? = some x.name := by rw [List.getElem?_map, hx]; rfl
  obtain ⟨h1, h2⟩ := List.getElem?_eq_some_iff.1 this
  show (L.map (·.name)).set k x.name = _
  rw [← h2, List.set_getElem_self]

/-- A name is there or not. -/
theorem rt_cases {L : List RB} {T : ByteArray → Option Bk} (hT : ∀ s, lookB L s = T s) (hn : (L.map (·.name)).Nodup) (s : ByteArray) :
    (findR L s = -1 ∧ T s = none ∧ ∀ x ∈ L, x.name ≠ s) ∨ ∃ (k : Nat) (x : RB), L[k]? = some x ∧ findR L s = k ∧ x.name = s ∧ T s = some x.b := by
  rcases findR_cases L s with ⟨h1, h2⟩ | ⟨k, hk, h1, h2, _⟩
  · exact .inl ⟨h1, by rw [← hT, lookB_none h2], h2⟩
  · refine .inr ⟨k, L[k], List.getElem?_eq_getElem hk, h1, h2, ?_⟩
    rw [← hT, ← h2, lookB_at hn (List.getElem?_eq_getElem hk)]

theorem RT.turn {w' : World} {r : Nat} {L : List RB} {T : ByteArray → Option Bk} {n : Nat} {F' : List Nat} (hT : ∀ s, lookB L s = T s) (hl : L.length = n) (hn : (L.map (·.name)).Nodup) (ho : ∀ x ∈ L, x.b.Ok) {k : Nat} {x : RB} (hx : L[k]? = some x) {s : ByteArray} (hs : x.name = s) (b : Bk) (ok : b.Ok)
    (h : RTab w' r (L.set k (x.set b)) F') : RT w' r (setT T s (some b)) n F' := by
  subst hs
  refine ⟨_, h, fun s => ?_, by rw [List.length_set]; exact hl, by show ((L.set k ⟨x.name, b⟩).map _).Nodup; rw [names_set hx]; exact hn, fun y hy => ?_⟩
  · rw [show x.set b = ⟨x.name, b⟩ from rfl, lookB_set hn hx]
    unfold setT
    split
    · rfl
    · exact hT s
  · rcases List.mem_or_eq_of_mem_set hy with h1 | rfl
    · exact ho y h1
    · exact ok

section
variable {w : World} {r : Nat} {T : ByteArray → Option Bk} {n : Nat} {F : List Nat}

theorem rtake_any (h : RT w r T n F) (s : ByteArray) (c now : Int) :
    Calls Try.prog 41 #[ptr r, .string s, .int .i64 c, .int .i64 now] w fun e w' => e = .returned (.int .i64 (takeR T s c now)) ∧ RT w' r (takeT T s c now) n F ∧ Fr F w w' := by
  obtain ⟨L, hR, hT, hl, hn, ho⟩ := h.ex
  unfold takeR takeT
  by_cases hg : good c now
  · rw [if_pos hg, if_pos hg]
    rcases rt_cases hT hn s with ⟨hf, hs, _⟩ | ⟨k, x, hx, hf, hs, hTs⟩
    · refine (rtake_none hR s c now hg hf).mono ?_
      rintro e w' ⟨rfl, rfl⟩
      rw [setT_none hs, hs]
      exact ⟨rfl, h, Fr.refl _ _⟩
    · have ok := ho x (List.mem_of_getElem? hx)
      refine (rtake_some hR s c now hg k x hx hf ok).mono ?_
      rintro e w' ⟨rfl, hR', hF⟩
      rw [hTs]
      exact ⟨rfl, RT.turn hT hl hn ho hx hs _ (takeB_ok _ (fillM_ok x.b ok now hg.2.2.1 hg.2.2.2) c hg.1 hg.2.1) hR', hF⟩
  · rw [if_neg hg, if_neg hg]
    refine (rtake_bad r s c now w hg).mono ?_
    rintro e w' ⟨rfl, rfl⟩
    exact ⟨rfl, h, Fr.refl _ _⟩

theorem rgive_any (h : RT w r T n F) (s : ByteArray) (c now : Int) :
    Calls Try.prog 42 #[ptr r, .string s, .int .i64 c, .int .i64 now] w fun e w' => e = .returned (.int .i64 (giveE T s c now)) ∧ RT w' r (giveT T s c now) n F ∧ Fr F w w' := by
  obtain ⟨L, hR, hT, hl, hn, ho⟩ := h.ex
  unfold giveE giveT
  by_cases hg : good c now
  · rw [if_pos hg, if_pos hg]
    rcases rt_cases hT hn s with ⟨hf, hs, _⟩ | ⟨k, x, hx, hf, hs, hTs⟩
    · refine (rgive_none hR s c now hg hf).mono ?_
      rintro e w' ⟨rfl, rfl⟩
      rw [setT_none hs, hs]
      exact ⟨rfl, h, Fr.refl _ _⟩
    · have ok := ho x (List.mem_of_getElem? hx)
      refine (rgive_some hR s c now hg k x hx hf ok).mono ?_
      rintro e w' ⟨rfl, hR', hF⟩
      rw [hTs]
      exact ⟨rfl, RT.turn hT hl hn ho hx hs _ (giveB_ok _ (fillM_ok x.b ok now hg.2.2.1 hg.2.2.2) c hg.1) hR', hF⟩
  · rw [if_neg hg, if_neg hg]
    refine (rgive_bad r s c now w hg).mono ?_
    rintro e w' ⟨rfl, rfl⟩
    exact ⟨rfl, h, Fr.refl _ _⟩

theorem rtok_any (h : RT w r T n F) (s : ByteArray) (now : Int) :
    Calls Try.prog 43 #[ptr r, .string s, .int .i64 now] w fun e w' => e = .returned (.tuple #[.int .i64 (tokV T s now), .int .i64 (tokE T s now)]) ∧ RT w' r (fillT T s 0 now) n F ∧ Fr F w w' := by
  obtain ⟨L, hR, hT, hl, hn, ho⟩ := h.ex
  unfold tokV tokE fillT
  by_cases hg : good 0 now
  · rw [if_pos hg, if_pos hg, if_pos hg]
    rcases rt_cases hT hn s with ⟨hf, hs, _⟩ | ⟨k, x, hx, hf, hs, hTs⟩
    · refine (rtok_none hR s now hg hf).mono ?_
      rintro e w' ⟨rfl, rfl⟩
      rw [setT_none hs, hs]
      exact ⟨rfl, h, Fr.refl _ _⟩
    · have ok := ho x (List.mem_of_getElem? hx)
      refine (rtok_some hR s now hg k x hx hf ok).mono ?_
      rintro e w' ⟨rfl, hR', hF⟩
      rw [hTs]
      exact ⟨rfl, RT.turn hT hl hn ho hx hs _ (fillM_ok x.b ok now hg.2.2.1 hg.2.2.2) hR', hF⟩
  · rw [if_neg hg, if_neg hg, if_neg hg]
    refine (rtok_bad r s now w hg).mono ?_
    rintro e w' ⟨rfl, rfl⟩
    exact ⟨rfl, h, Fr.refl _ _⟩

theorem rnext_any (h : RT w r T n F) (s : ByteArray) (c now : Int) :
    Calls Try.prog 44 #[ptr r, .string s, .int .i64 c, .int .i64 now] w fun e w' => e = .returned (.tuple #[.int .i64 (nextR T s c now).1, .int .i64 (nextR T s c now).2]) ∧ RT w' r (fillT T s c now) n F ∧ Fr F w w' := by
  obtain ⟨L, hR, hT, hl, hn, ho⟩ := h.ex
  unfold nextR fillT
  by_cases hg : good c now
  · rw [if_pos hg, if_pos hg]
    rcases rt_cases hT hn s with ⟨hf, hs, _⟩ | ⟨k, x, hx, hf, hs, hTs⟩
    · refine (rnext_none hR s c now hg hf).mono ?_
      rintro e w' ⟨rfl, rfl⟩
      rw [setT_none hs, hs]
      exact ⟨rfl, h, Fr.refl _ _⟩
    · have ok := ho x (List.mem_of_getElem? hx)
      refine (rnext_some hR s c now hg k x hx hf ok).mono ?_
      rintro e w' ⟨rfl, hR', hF⟩
      rw [hTs]
      exact ⟨rfl, RT.turn hT hl hn ho hx hs _ (fillM_ok x.b ok now hg.2.2.1 hg.2.2.2) hR', hF⟩
  · rw [if_neg hg, if_neg hg]
    refine (rnext_bad r s c now w hg).mono ?_
    rintro e w' ⟨rfl, rfl⟩
    exact ⟨rfl, h, Fr.refl _ _⟩

theorem rcnt_any (h : RT w r T n F) (s : ByteArray) :
    Calls Try.prog 46 #[ptr r, .string s] w fun e w' => e = .returned (.tuple #[.agg #[.int .i64 (cntV T s).1, .int .i64 (cntV T s).2.1, .int .i64 (cntV T s).2.2], .int .i64 (cntE T s)]) ∧ RT w' r T n F ∧ Fr [] w w' := by
  obtain ⟨L, hR, hT, hl, hn, ho⟩ := h.ex
  unfold cntV cntE
  rcases rt_cases hT hn s with ⟨hf, hs, _⟩ | ⟨k, x, hx, hf, hs, hTs⟩
  · refine (rcnt_none hR s hf).mono ?_
    rintro e w' ⟨rfl, hF⟩
    rw [hs]
    exact ⟨rfl, h.fr hF (fun _ _ => by simp), hF⟩
  · refine (rcnt_some hR s k x hx hf).mono ?_
    rintro e w' ⟨rfl, hF⟩
    rw [hTs]
    exact ⟨rfl, h.fr hF (fun _ _ => by simp), hF⟩

theorem rset_any (h : RT w r T n F) (s : ByteArray) (rate b now : Int) :
    Calls Try.prog 40 #[ptr r, .string s, .int .i64 rate, .int .i64 b, .int .i64 now] w fun e w' => e = .returned (.int .i64 (setR T n s rate b now)) ∧ Fr F w w' ∧
      ∃ F', RT w' r (setS T n s rate b now) (setN T n s rate b now) F' ∧ ∀ i ∈ F', i ∈ F ∨ w.heap.size ≤ i := by
  obtain ⟨L, hR, hT, hl, hn, ho⟩ := h.ex
  by_cases hg : goodSet rate b now
  · rcases rt_cases hT hn s with ⟨hf, hs, hno⟩ | ⟨k, x, hx, hf, hs, hTs⟩
    · by_cases hfull : 16 ≤ n
      · have hRR : setR T n s rate b now = 7 := by rw [setR, if_pos hg, if_pos ⟨hs, hfull⟩]
        refine (rset_full hR s rate b now hg hf (by omega)).mono ?_
        rintro e w' ⟨rfl, hF⟩
        rw [setS, setN, hRR]
        exact ⟨rfl, hF.mono (by simp), F, h.fr hF (fun _ _ => by simp), fun i hi => .inl hi⟩
      · have hRR : setR T n s rate b now = 0 := by rw [setR, if_pos hg, if_neg (fun h => hfull h.2)]
        refine (rset_new hR s rate b now hg hf (by omega)).mono ?_
        rintro e w' ⟨rfl, hF, F', hR', hB⟩
        rw [setS, setN, hRR, if_pos rfl, if_pos rfl, if_pos hs]
        refine ⟨rfl, hF, F', ⟨_, hR', fun y => ?_, by simp [hl], ?_, fun y hy => ?_⟩, hB⟩
        · have key : ∀ M : List RB, (∀ x ∈ M, x.name ≠ s) → lookB (M ++ [⟨s, Bk.new rate b now⟩]) y = if y = s then some (Bk.new rate b now) else lookB M y := by
            intro M hM
            induction M with
            | nil => simp only [List.nil_append, lookB, eq_comm]
            | cons z M ih =>
              simp only [List.mem_cons, forall_eq_or_imp] at hM
              simp only [List.cons_append, lookB, ih hM.2]
              by_cases e : z.name = y
              · rw [if_pos e, if_pos e, if_neg (fun h => hM.1 (e.trans h))]
              · rw [if_neg e, if_neg e]
          rw [key L hno]
          unfold setT
          split
          · rfl
          · exact hT y
        · simp only [List.map_append, List.map_cons, List.map_nil]
          refine List.nodup_append.2 ⟨hn, by simp, fun a ha c hc => ?_⟩
          obtain ⟨x, hx, rfl⟩ := List.mem_map.1 ha
          simp only [List.mem_singleton] at hc
          subst hc
          exact hno x hx
        · rcases List.mem_append.1 hy with h1 | h1
          · exact ho y h1
          · rw [List.mem_singleton.1 h1]; exact new_ok hg
    · have hRR : setR T n s rate b now = 0 := by rw [setR, if_pos hg, if_neg (fun h => by rw [hTs] at h; cases h.1)]
      refine (rset_there hR s rate b now hg k (List.getElem?_eq_some_iff.1 hx).1 hf).mono ?_
      rintro e w' ⟨rfl, hR', hF⟩
      rw [setS, setN, hRR, if_pos rfl, if_pos rfl, if_neg (by rw [hTs]; simp)]
      subst hs
      exact ⟨rfl, hF, F, RT.turn hT hl hn ho hx rfl _ (new_ok hg) hR', fun i hi => .inl hi⟩
  · have hRR : setR T n s rate b now = 1 := by rw [setR, if_neg hg]
    refine (rset_bad r s rate b now w hg).mono ?_
    rintro e w' ⟨rfl, rfl⟩
    rw [setS, setN, hRR]
    exact ⟨rfl, Fr.refl _ _, F, h, fun i hi => .inl hi⟩

theorem rdrop_any (h : RT w r T n F) (s : ByteArray) :
    Calls Try.prog 45 #[ptr r, .string s] w fun e w' => e = .returned (.int .i64 (cntE T s)) ∧ Fr F w w' ∧ ∃ F', RT w' r (setT T s none) (dropN T n s) F' ∧ ∀ i ∈ F', i ∈ F ∨ w.heap.size ≤ i := by
  obtain ⟨L, hR, hT, hl, hn, ho⟩ := h.ex
  unfold cntE dropN
  rcases rt_cases hT hn s with ⟨hf, hs, hno⟩ | ⟨k, x, hx, hf, hs, hTs⟩
  · refine (rdrop_none hR s hf).mono ?_
    rintro e w' ⟨rfl, rfl⟩
    have : setT T s none = T := by rw [← hs, setT_self]
    rw [this, hs]
    exact ⟨rfl, Fr.refl _ _, F, h, fun i hi => .inl hi⟩
  · have hk := (List.getElem?_eq_some_iff.1 hx).1
    refine (rdrop_some hR s k hk hf).mono ?_
    rintro e w' ⟨rfl, hF, F', hR', hB⟩
    rw [hTs]
    refine ⟨rfl, hF, F', ⟨_, hR', fun y => ?_, by simp; omega, ?_, fun y hy => ?_⟩, hB⟩
    · have key : ∀ (M : List RB) (k : Nat), (M.map (·.name)).Nodup → M[k]? = some x → lookB (M.take k ++ M.drop (k + 1)) y = if y = x.name then none else lookB M y := by
        intro M
        induction M with
        | nil => intro k _ hk; simp at hk
        | cons z M ih =>
          intro k hnd hk
          simp only [List.map_cons, List.nodup_cons] at hnd
          cases k with
          | zero =>
            simp only [List.getElem?_cons_zero, Option.some.injEq] at hk
            subst hk
            simp only [List.take_zero, List.nil_append, Nat.zero_add, List.drop_succ_cons, List.drop_zero, lookB]
            by_cases e : z.name = y
            · rw [if_pos e.symm]
              refine lookB_none fun v hv hvn => hnd.1 ?_
              rw [e, ← hvn]; exact List.mem_map.2 ⟨v, hv, rfl⟩
            · rw [if_neg e, if_neg (fun h => e h.symm)]
          | succ k =>
            simp only [List.getElem?_cons_succ] at hk
            have hz : z.name ≠ x.name := fun e => hnd.1 (by rw [e]; exact List.mem_map.2 ⟨x, List.mem_of_getElem? hk, rfl⟩)
            simp only [List.take_succ_cons, List.cons_append, List.drop_succ_cons, lookB, ih k hnd.2 hk]
            by_cases e : z.name = y
            · rw [if_pos e, if_pos e, if_neg (fun h => hz (e.trans h))]
            · rw [if_neg e, if_neg e]
      rw [key L k hn hx, hs]
      unfold setT
      split
      · rfl
      · exact hT y
    · rw [← List.eraseIdx_eq_take_drop_succ]
      exact List.Nodup.sublist ((List.eraseIdx_sublist _ _).map _) hn
    · rcases List.mem_append.1 hy with h1 | h1
      · exact ho y (List.mem_of_mem_take h1)
      · exact ho y (List.mem_of_mem_drop h1)
end
end Go.Proofs.Ytoichcjlfpijeaa
