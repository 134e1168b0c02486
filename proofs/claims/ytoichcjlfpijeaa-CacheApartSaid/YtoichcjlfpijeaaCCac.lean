/- The cache: Len, Counts, Forget. -/
import Derived.Test.YtoichcjlfpijeaaCCache
namespace Go.Proofs.Ytoichcjlfpijeaa
open Go.RowKit Go.Bl

def cz : Value := .agg #[.int .i64 0, .int .i64 0]
structure CacheO (w : World) (c mm mc : Nat) (most : Int) (f : ByteArray → Option Value) (n : Nat) (g : ByteArray → Option Value) (nc : Nat) (M : ByteArray → Option (List Ent1)) (C : ByteArray → Int × Int) (G : ByteArray → List Nat) (F : List Nat) : Prop where
  cell : w.heap[c]? = some (.cells #[.int .i64 most, .map (some mm), .map (some mc)] 100 (0, 0))
  tm : MapAt w mm f n
  cm : MapAt w mc g nc
  m0 : 1 ≤ most
  m1 : most ≤ 64
  ne : mm ≠ mc
  no : ∀ t, f t = none → M t = none
  yes : ∀ t v, f t = some v → ∃ l L, v = pp l ∧ M t = some L ∧ LruA w l most L (G t) ∧ (L.length : Int) ≤ most
  cnt : ∀ t, (g t).getD (.agg #[.int .i64 0, .int .i64 0]) = .agg #[.int .i64 (C t).1, .int .i64 (C t).2]
  dis : ∀ t u, f t ≠ none → f u ≠ none → t ≠ u → ∀ i ∈ G t, i ∉ G u
  own : ∀ t, f t ≠ none → ∀ i ∈ G t, i ≠ c ∧ i ≠ mm ∧ i ≠ mc
  cF : c ∈ F
  mF : mm ∈ F
  nF : mc ∈ F
  gF : ∀ t, f t ≠ none → ∀ i ∈ G t, i ∈ F
  lt : ∀ i ∈ F, i < w.heap.size

theorem CacheO.ncm {w : World} {c mm mc : Nat} {most : Int} {f : ByteArray → Option Value} {n : Nat} {g : ByteArray → Option Value} {nc : Nat} {M : ByteArray → Option (List Ent1)} {C : ByteArray → Int × Int} {G : ByteArray → List Nat} {F : List Nat}
    (h : CacheO w c mm mc most f n g nc M C G F) : mm ≠ c ∧ mc ≠ c :=
  ⟨map_ne_cell h.tm (cell_of h.cell 0), map_ne_cell h.cm (cell_of h.cell 0)⟩

theorem CacheO.fr {w w' : World} {c mm mc : Nat} {most : Int} {f : ByteArray → Option Value} {n : Nat} {g : ByteArray → Option Value} {nc : Nat} {M : ByteArray → Option (List Ent1)} {C : ByteArray → Int × Int} {G : ByteArray → List Nat} {F S : List Nat}
    (h : CacheO w c mm mc most f n g nc M C G F) (hF : Fr S w w') (hS : ∀ i ∈ F, i ∉ S) : CacheO w' c mm mc most f n g nc M C G F :=
  { h with
    cell := hF.obj h.cell (hS _ h.cF)
    tm := h.tm.fr hF (hS _ h.mF)
    cm := h.cm.fr hF (hS _ h.nF)
    yes := fun t v hv => by
      obtain ⟨l, L, h1, h2, h3, h4⟩ := h.yes t v hv
      exact ⟨l, L, h1, h2, h3.fr hF (fun i hi => hS i (h.gF t (by rw [hv]; simp) i hi)), h4⟩
    lt := fun i hi => Nat.lt_of_lt_of_le (h.lt i hi) hF.size }

def Cac (w : World) (c : Nat) (most : Int) (M : ByteArray → Option (List Ent1)) (C : ByteArray → Int × Int) (n : Nat) (F : List Nat) : Prop := ∃ mm mc f g nc G, CacheO w c mm mc most f n g nc M C G F
theorem Cac.fr {w w' : World} {c : Nat} {most : Int} {n : Nat} {M : ByteArray → Option (List Ent1)} {C : ByteArray → Int × Int} {F S : List Nat} (h : Cac w c most M C n F) (hF : Fr S w w') (hS : ∀ i ∈ F, i ∉ S) : Cac w' c most M C n F := by
  obtain ⟨mm, mc, f, g, nc, G, h⟩ := h
  exact ⟨mm, mc, f, g, nc, G, h.fr hF hS⟩
theorem Cac.lt {w : World} {c : Nat} {most : Int} {n : Nat} {M : ByteArray → Option (List Ent1)} {C : ByteArray → Int × Int} {F : List Nat} (h : Cac w c most M C n F) : ∀ i ∈ F, i < w.heap.size := by
  obtain ⟨mm, mc, f, g, nc, G, h⟩ := h
  exact h.lt

section
variable {w : World} {c mm mc : Nat} {most : Int} {f : ByteArray → Option Value} {n : Nat} {g : ByteArray → Option Value} {nc : Nat} {M : ByteArray → Option (List Ent1)} {C : ByteArray → Int × Int} {G : ByteArray → List Nat} {F : List Nat}

theorem zero104 (w : World) : (zeroValue 104).run Try.prog w = .ok (.pointer none) w := by kernel_rfl
theorem zero64 (w : World) : (zeroValue 64).run Try.prog w = .ok (.agg #[.int .i64 0, .int .i64 0]) w := by kernel_rfl
theorem CacheO.look (h : CacheO w c mm mc most f n g nc M C G F) (s : ByteArray) :
    (Instr.lookup 97 (.map (some mm)) (.string s) false).run Try.prog w = .ok ((f s).getD (.pointer none)) w := h.tm.lookup Try.underlying97 Try.underlying9 zero104 s false
theorem CacheO.lookc (h : CacheO w c mm mc most f n g nc M C G F) (s : ByteArray) :
    (Instr.lookup 98 (.map (some mc)) (.string s) false).run Try.prog w = .ok (.agg #[.int .i64 (C s).1, .int .i64 (C s).2]) w := by
  have := h.cm.lookup Try.underlying98 Try.underlying9 zero64 s false
  rw [if_neg (by decide), h.cnt s] at this
  exact this
theorem CacheO.cases (h : CacheO w c mm mc most f n g nc M C G F) (t : ByteArray) :
    (f t = none ∧ M t = none) ∨ ∃ l L, f t = some (pp l) ∧ M t = some L ∧ LruA w l most L (G t) ∧ (L.length : Int) ≤ most := by
  cases hf : f t with
  | none => exact .inl ⟨rfl, h.no t hf⟩
  | some v =>
    obtain ⟨l, L, rfl, h2⟩ := h.yes t v hf
    exact .inr ⟨l, L, rfl, h2⟩

def lenM (M : ByteArray → Option (List Ent1)) (t : ByteArray) : Nat := match M t with | none => 0 | some L => L.length
theorem clen_nil (t : ByteArray) (w : World) : Calls Try.prog 24 #[.pointer none, .string t] w fun e w' => e = .returned (.int .i64 0) ∧ w = w' := by
  go_enter Try.func24, Try.ntmps24
  go_wp2
  go_ret
  exact ⟨rfl, rfl⟩
theorem clen_o (h : CacheO w c mm mc most f n g nc M C G F) (t : ByteArray) : Calls Try.prog 24 #[pp c, .string t] w fun e w' => e = .returned (.int .i64 (lenM M t)) ∧ w = w' := by
  have hl := h.look t
  have c1 : w.cell? ⟨c, 1, none⟩ = some (.map (some mm)) := cell_of h.cell 1
  rcases h.cases t with ⟨h1, h2⟩ | ⟨l, L, h1, h2, h3, _⟩
  · have e : lenM M t = 0 := by unfold lenM; rw [h2]
    rw [e]
    rw [h1] at hl
    clear h h1 h2 e
    go_enter Try.func24, Try.ntmps24
    go_wp2_with (go_at_call 54; refine (len_nil _).mono ?_; rintro e w' ⟨rfl, rfl⟩)
    go_ret
    exact ⟨rfl, rfl⟩
  · have e : lenM M t = L.length := by unfold lenM; rw [h2]
    rw [e]
    rw [h1] at hl
    have H3 := Lib.hid h3
    clear h h1 h2 e h3
    go_enter Try.func24, Try.ntmps24
    go_wp2_with (go_at_call 54; refine (alen H3.out).mono ?_; rintro e w' ⟨rfl, rfl⟩)
    go_ret
    exact ⟨rfl, rfl⟩

theorem counts_nil (t : ByteArray) (w : World) : Calls Try.prog 25 #[.pointer none, .string t] w fun e w' => e = .returned (.agg #[.int .i64 0, .int .i64 0]) ∧ Fr [] w w' := by
  go_enter Try.func25, Try.ntmps25
  go_wp2
  exact bodyPost_ret (v := .agg #[.int .i64 0, .int .i64 0]) (by simp [results, Try.results25, go_sem]) rfl ⟨rfl, ((Fr.refl _ _).alloc _)⟩
theorem counts_o (h : CacheO w c mm mc most f n g nc M C G F) (t : ByteArray) : Calls Try.prog 25 #[pp c, .string t] w fun e w' => e = .returned (.agg #[.int .i64 (C t).1, .int .i64 (C t).2]) ∧ Fr [] w w' := by
  have h1 := h.fr ((Fr.refl [] w).alloc (.cells #[.int .i64 0, .int .i64 0] 64)) (by simp)
  have hl := h1.lookc t
  have c2 : (w.alloc (.cells #[.int .i64 0, .int .i64 0] 64)).cell? ⟨c, 2, none⟩ = some (.map (some mc)) := cell_of h1.cell 2
  generalize (C t).1 = x at *
  generalize (C t).2 = y at *
  clear h h1
  go_enter Try.func25, Try.ntmps25
  go_wp2
  exact bodyPost_ret (v := .agg #[.int .i64 x, .int .i64 y]) (by simp [results, Try.results25, go_sem]) rfl ⟨rfl, (((Fr.refl _ _).alloc _))⟩

/-- A tenant goes. -/
def dropM (M : ByteArray → Option (List Ent1)) (t : ByteArray) : ByteArray → Option (List Ent1) := fun x => if x = t then none else M x
theorem CacheO.drop {w2 : World} (h : CacheO w c mm mc most f n g nc M C G F) (t : ByteArray) {n' : Nat} (hM : MapAt w2 mm (fun x => if x = t then none else f x) n') (hF : Fr [mm] w w2) :
    CacheO w2 c mm mc most (fun x => if x = t then none else f x) n' g nc (dropM M t) C G F := by
  have hk : ∀ u, (if u = t then none else f u) ≠ none → f u ≠ none := fun u hu e => hu (by rw [e]; simp)
  exact
  { cell := hF.obj h.cell (by simpa using Ne.symm h.ncm.1)
    tm := hM
    cm := h.cm.fr hF (by simpa using Ne.symm h.ne)
    m0 := h.m0
    m1 := h.m1
    ne := h.ne
    no := fun u hu => by
      unfold dropM
      by_cases e : u = t
      · rw [if_pos e]
      · rw [if_neg e] at hu ⊢; exact h.no u hu
    yes := fun u v hv => by
      unfold dropM
      by_cases e : u = t
      · rw [if_pos e] at hv; cases hv
      · rw [if_neg e] at hv ⊢
        obtain ⟨l, L, h1, h2, h3, h4⟩ := h.yes u v hv
        exact ⟨l, L, h1, h2, h3.fr hF (fun i hi => by simpa using (h.own u (by rw [hv]; simp) i hi).2.1), h4⟩
    cnt := h.cnt
    dis := fun u v hu hv => h.dis u v (hk u hu) (hk v hv)
    own := fun u hu => h.own u (hk u hu)
    cF := h.cF
    mF := h.mF
    nF := h.nF
    gF := fun u hu => h.gF u (hk u hu)
    lt := fun i hi => Nat.lt_of_lt_of_le (h.lt i hi) hF.size }

theorem forget_nil (t : ByteArray) (w : World) : Calls Try.prog 23 #[.pointer none, .string t] w fun e w' => e = .returned (.int .i64 0) ∧ w = w' := by
  go_enter Try.func23, Try.ntmps23
  go_wp2_with (go_at_call 24; refine (clen_nil _ _).mono ?_; rintro e w' ⟨rfl, rfl⟩)
  go_ret
  exact ⟨rfl, rfl⟩

def forgetM (M : ByteArray → Option (List Ent1)) (t : ByteArray) : ByteArray → Option (List Ent1) := if 0 < lenM M t then dropM M t else M
theorem forget_o (h : CacheO w c mm mc most f n g nc M C G F) (t : ByteArray) : Calls Try.prog 23 #[pp c, .string t] w fun e w' => e = .returned (.int .i64 (lenM M t)) ∧ (∃ f' n', CacheO w' c mm mc most f' n' g nc (forgetM M t) C G F ∧ (∀ x, f' x ≠ none → f x ≠ none) ∧ n' ≤ n) ∧ Fr F w w' := by
  have H := Lib.hid h
  have HL := Lib.hid (clen_o h t)
  have c1 : w.cell? ⟨c, 1, none⟩ = some (.map (some mm)) := cell_of h.cell 1
  obtain ⟨w2, hrun, hM, hF, _⟩ := h.tm.drop Try.underlying97 Try.underlying9 t
  have HR := Lib.hid hrun
  have HM := Lib.hid (And.intro hM hF)
  unfold forgetM
  have hb : lenM M t ≤ 64 := by
    unfold lenM
    rcases h.cases t with ⟨h1, h2⟩ | ⟨l, L, h1, h2, h3, h4⟩
    · rw [h2]; exact Nat.zero_le _
    · rw [h2]; have := h.m1; dsimp only; omega
  generalize lenM M t = k at *
  clear h hrun hM hF
  by_cases hk : 0 < k
  · rw [if_pos hk]
    go_enter Try.func23, Try.ntmps23
    go_wp2_with (first
      | (go_at_call 24; refine HL.out.mono ?_; rintro e w' ⟨rfl, rfl⟩)
      | (at_delete; refine wpList_delete rfl _ _ _ _ rfl _ _ _ rfl rfl (HR.out _ _) ?_))
    go_ret
    refine ⟨rfl, ⟨_, _, H.out.drop t HM.out.1 HM.out.2, fun x hx e => hx (by rw [e]; simp), ?_⟩, HM.out.2.mono (fun i hi => .inl (by rw [List.mem_singleton.1 hi]; exact H.out.mF))⟩
    unfold drp; split <;> omega
  · rw [if_neg hk]
    go_enter Try.func23, Try.ntmps23
    go_wp2_with (go_at_call 24; refine HL.out.mono ?_; rintro e w' ⟨rfl, rfl⟩)
    go_ret
    exact ⟨rfl, ⟨f, n, H.out, fun _ h => h, Nat.le_refl _⟩, Fr.refl _ _⟩
end
end Go.Proofs.Ytoichcjlfpijeaa
