/- CacheApart: one call of both, kind by kind. -/
import Derived.Test.YtoichcjlfpijeaaCRef3
namespace Go.Proofs.Ytoichcjlfpijeaa
open Go.RowKit Go.Bl

structure COp where
  kind : Int
  t : ByteArray
  k : ByteArray
  s : ByteArray
  x : ByteArray
def COp.cells (o : COp) : Array Value := #[.int .i64 o.kind, .string o.t, .string o.k, .string o.s, .string o.x]
def COp.agg (o : COp) : Value := .agg o.cells

/-- What a call of another tenant's leaves. -/
def StepC (w : World) (c r : Nat) (most : Int) (M : ByteArray → Option (List Ent1)) (C : ByteArray → Int × Int) (F : List Nat) (t : ByteArray) (w' : World) : Prop :=
  ∃ M' C' F', Cc w' c most M' C' F' ∧ (∀ i ∈ F', i ∈ F ∨ w.heap.size ≤ i) ∧ Fr (r :: F) w w' ∧ ∀ u, u ≠ t → M' u = M u ∧ C' u = C u
def StepP (w : World) (c r : Nat) (most : Int) (M : ByteArray → Option (List Ent1)) (C : ByteArray → Int × Int) (F : List Nat) (t : ByteArray) (e : Ending) (w' : World) : Prop := (∃ b, e = .returned (.bool b)) ∧ StepC w c r most M C F t w'

theorem stepC_of {w W w4 w' : World} {c r : Nat} {most : Int} {M M' : ByteArray → Option (List Ent1)} {C C' : ByteArray → Int × Int} {F : List Nat} {t : ByteArray} (hW : Fr [] w W) (hK : Kept W c most M' C' F w4) (hF : Fr [r] w4 w') (hr : r < w.heap.size) (hrF : r ∉ F)
    (hu : ∀ u, u ≠ t → M' u = M u ∧ C' u = C u) : StepC w c r most M C F t w' := by
  obtain ⟨⟨F', hC, hs⟩, hF4⟩ := hK
  have hz := hW.size
  refine ⟨M', C', F', hC.fr hF (fun i hi e => ?_), fun i hi => (hs i hi).imp id (by omega), ?_, hu⟩
  · rw [List.mem_singleton] at e
    rcases hs i hi with h | h
    · exact hrF (by rw [← e]; exact h)
    · omega
  · exact ((hW.mono (T := r :: F) (by simp)).trans (hF4.mono (fun i hi => .inl (List.mem_cons_of_mem _ hi)))).trans (hF.mono (fun i hi => .inl (by simp at hi; simp [hi])))
theorem upd_ne {M : ByteArray → Option (List Ent1)} {t : ByteArray} {v : Option (List Ent1)} {u : ByteArray} (h : u ≠ t) : upd M t v u = M u := if_neg h
theorem setC_ne {C : ByteArray → Int × Int} {t : ByteArray} {v : Int × Int} {u : ByteArray} (h : u ≠ t) : setC C t v u = C u := if_neg h
theorem Kept.drop {w W w' : World} {c : Nat} {most : Int} {M : ByteArray → Option (List Ent1)} {C : ByteArray → Int × Int} {F : List Nat} (h : Kept W c most M C F w') (hF : Fr [] w W) : Kept w c most M C F w' := by
  obtain ⟨⟨F', hC, hs⟩, hF4⟩ := h
  exact ⟨⟨F', hC, fun i hi => (hs i hi).imp id (Nat.le_trans hF.size)⟩, (hF.mono (by simp)).trans hF4⟩

section
variable {w : World} {c r : Nat} {most : Int} {M : ByteArray → Option (List Ent1)} {C : ByteArray → Int × Int} {F : List Nat}
theorem opS {W W' : World} {S : List Nat} {o : COp} {B : Nat} (hx : W.heap[B]? = some (.cells o.cells 52 (0, 0))) (hS : B ∉ S) (hF : Fr S W W') :
    W'.cell? ⟨B, 1, none⟩ = some (.string o.t) ∧ W'.cell? ⟨B, 2, none⟩ = some (.string o.k) ∧ W'.cell? ⟨B, 3, none⟩ = some (.string o.s) ∧ W'.cell? ⟨B, 4, none⟩ = some (.string o.x) ∧ Fr S W W' := by
  have h := hF.obj hx hS
  exact ⟨cell_of h 1, cell_of h 2, cell_of h 3, cell_of h 4, hF⟩

set_option maxRecDepth 100000 in
set_option maxHeartbeats 2000000 in
theorem stepc_0 (h : Cc w c most M C F) (hr : R0 w r) (hrF : r ∉ F) (o : COp) (hk : o.kind = 0) {K : List ByteArray} (hK : ∀ u, M u ≠ none → u ∈ K) (hl : K.length < 16) : Calls Try.prog 20 #[pp c, pp r, o.agg] w (StepP w c r most M C F o.t) := by
  obtain ⟨kind, t, k, s, x⟩ := o
  have HK := Lib.hid (And.intro hK hl)
  clear hK hl
  dsimp only at hk
  subst hk
  have hrl := lt_of_obj hr
  obtain ⟨W, hW⟩ : ∃ W, w.alloc (.cells #[.int .i64 0, .string t, .string k, .string s, .string x] 52) = W := ⟨_, rfl⟩
  have hFW : Fr [] w W := by rw [← hW]; exact (Fr.refl _ _).alloc _
  have hx : W.heap[w.heap.size]? = some (.cells (COp.mk 0 t k s x).cells 52 (0, 0)) := by rw [← hW]; exact heap_alloc w _
  have hnF : w.heap.size ∉ r :: F := by
    simp only [List.mem_cons, not_or]
    exact ⟨by omega, fun hm => by have := h.lt _ hm; omega⟩
  have HC := Lib.hid (h.fr hFW (by simp))
  have HR : Hid (R0 W r) := hFW.obj hr (by simp)
  have HX := Lib.hid (And.intro hx hnF)
  have HFW := Lib.hid hFW
  have HrF := Lib.hid (And.intro hrl hrF)
  obtain ⟨x1, x2, x3, x4, _⟩ := opS (S := r :: F) hx hnF (Fr.refl _ W)
  have x0 : W.cell? ⟨w.heap.size, 0, none⟩ = some (.int .i64 0) := cell_of hx 0
  have hs0 : w.heap.size < W.heap.size := lt_of_obj hx
  dsimp only at x1 x2 x3 x4
  clear h hr hrF hFW hx hnF
  show Calls Try.prog 20 #[pp c, pp r, .agg #[.int .i64 0, .string t, .string k, .string s, .string x]] w (StepP w c r most M C F t)
  go_enter Try.func20, Try.ntmps20
  go_wp2_with fail
  try rw [hW]
  go_region_held3 (fun w' => w'.cell? ⟨w.heap.size, 1, none⟩ = some (.string t) ∧ w'.cell? ⟨w.heap.size, 2, none⟩ = some (.string k) ∧ w'.cell? ⟨w.heap.size, 3, none⟩ = some (.string s) ∧ w'.cell? ⟨w.heap.size, 4, none⟩ = some (.string x) ∧ Fr (r :: F) W w') (exact opS (o := COp.mk _ t k s x) HX.out.1 HX.out.2 (by (repeat (first | with_reducible exact Fr.refl _ _ | assumption | with_reducible refine Fr.drew ?_ | with_reducible refine Fr.drewN ?_ _)))) (first
    | (go_at_call 22; refine (put_any2 (HC.out.fr (S := []) (by (repeat (first | with_reducible exact Fr.refl _ _ | assumption | with_reducible refine Fr.drew ?_ | with_reducible refine Fr.drewN ?_ _))) (by simp)) t k s x HK.out.1 HK.out.2).mono ?_; rintro e w4 ⟨rfl, hK4⟩; have hk4 := Kept.drop (w := W) hK4 (by (repeat (first | with_reducible exact Fr.refl _ _ | assumption | with_reducible refine Fr.drew ?_ | with_reducible refine Fr.drewN ?_ _))); have hX : Fr (r :: F) W w4 := hk4.2.mono (fun i hi => .inl (List.mem_cons_of_mem _ hi)); have HK4 := Lib.hid hk4; clear hK4 hk4)
    | (go_at_call 48; refine (rput_0 (HK4.out.2.obj HR.out HrF.out.2) t k s x).mono ?_; rintro e w5 ⟨rfl, hF5⟩; have hX5 : Fr (r :: F) W w5 := hX.trans (hF5.mono (fun i hi => .inl (by rw [List.mem_singleton.1 hi]; simp))); have HF5 := Lib.hid hF5; clear hF5))
  all_goals
    go_wp2
    go_ret
    refine ⟨⟨_, rfl⟩, stepC_of HFW.out HK4.out (by first | exact HF5.out | exact HF5.out.drew) HrF.out.1 HrF.out.2 (fun u hu => ⟨upd_ne hu, rfl⟩)⟩

set_option maxRecDepth 100000 in
set_option maxHeartbeats 2000000 in
theorem stepc_1 (h : Cc w c most M C F) (hr : R0 w r) (hrF : r ∉ F) (o : COp) (hk : o.kind = 1) {K : List ByteArray} (hK : ∀ u, M u ≠ none → u ∈ K) (hl : K.length < 16) : Calls Try.prog 20 #[pp c, pp r, o.agg] w (StepP w c r most M C F o.t) := by
  obtain ⟨kind, t, k, s, x⟩ := o
  have HK := Lib.hid (And.intro hK hl)
  clear hK hl
  dsimp only at hk
  subst hk
  have hrl := lt_of_obj hr
  obtain ⟨W, hW⟩ : ∃ W, w.alloc (.cells #[.int .i64 1, .string t, .string k, .string s, .string x] 52) = W := ⟨_, rfl⟩
  have hFW : Fr [] w W := by rw [← hW]; exact (Fr.refl _ _).alloc _
  have hx : W.heap[w.heap.size]? = some (.cells (COp.mk 1 t k s x).cells 52 (0, 0)) := by rw [← hW]; exact heap_alloc w _
  have hnF : w.heap.size ∉ r :: F := by
    simp only [List.mem_cons, not_or]
    exact ⟨by omega, fun hm => by have := h.lt _ hm; omega⟩
  have HC := Lib.hid (h.fr hFW (by simp))
  have HR : Hid (R0 W r) := hFW.obj hr (by simp)
  have HX := Lib.hid (And.intro hx hnF)
  have HFW := Lib.hid hFW
  have HrF := Lib.hid (And.intro hrl hrF)
  obtain ⟨x1, x2, x3, x4, _⟩ := opS (S := r :: F) hx hnF (Fr.refl _ W)
  have x0 : W.cell? ⟨w.heap.size, 0, none⟩ = some (.int .i64 1) := cell_of hx 0
  have hs0 : w.heap.size < W.heap.size := lt_of_obj hx
  dsimp only at x1 x2 x3 x4
  clear h hr hrF hFW hx hnF
  show Calls Try.prog 20 #[pp c, pp r, .agg #[.int .i64 1, .string t, .string k, .string s, .string x]] w (StepP w c r most M C F t)
  go_enter Try.func20, Try.ntmps20
  go_wp2_with fail
  try rw [hW]
  go_region_held3 (fun w' => w'.cell? ⟨w.heap.size, 1, none⟩ = some (.string t) ∧ w'.cell? ⟨w.heap.size, 2, none⟩ = some (.string k) ∧ w'.cell? ⟨w.heap.size, 3, none⟩ = some (.string s) ∧ w'.cell? ⟨w.heap.size, 4, none⟩ = some (.string x) ∧ Fr (r :: F) W w') (exact opS (o := COp.mk _ t k s x) HX.out.1 HX.out.2 (by (repeat (first | with_reducible exact Fr.refl _ _ | assumption | with_reducible refine Fr.drew ?_ | with_reducible refine Fr.drewN ?_ _)))) (first
    | (go_at_call 22; refine (put_any2 (HC.out.fr (S := []) (by (repeat (first | with_reducible exact Fr.refl _ _ | assumption | with_reducible refine Fr.drew ?_ | with_reducible refine Fr.drewN ?_ _))) (by simp)) t k s x HK.out.1 HK.out.2).mono ?_; rintro e w4 ⟨rfl, hK4⟩; have hk4 := Kept.drop (w := W) hK4 (by (repeat (first | with_reducible exact Fr.refl _ _ | assumption | with_reducible refine Fr.drew ?_ | with_reducible refine Fr.drewN ?_ _))); have hX : Fr (r :: F) W w4 := hk4.2.mono (fun i hi => .inl (List.mem_cons_of_mem _ hi)); have HK4 := Lib.hid hk4; clear hK4 hk4)
    | (go_at_call 48; refine (rput_0 (HK4.out.2.obj HR.out HrF.out.2) t k s x).mono ?_; rintro e w5 ⟨rfl, hF5⟩; have hX5 : Fr (r :: F) W w5 := hX.trans (hF5.mono (fun i hi => .inl (by rw [List.mem_singleton.1 hi]; simp))); have HF5 := Lib.hid hF5; clear hF5))
  all_goals
    go_wp2
    go_ret
    refine ⟨⟨_, rfl⟩, stepC_of HFW.out HK4.out (by first | exact HF5.out | exact HF5.out.drew) HrF.out.1 HrF.out.2 (fun u hu => ⟨upd_ne hu, rfl⟩)⟩

set_option maxRecDepth 100000 in
set_option maxHeartbeats 2000000 in
theorem stepc_2 (h : Cc w c most M C F) (hr : R0 w r) (hrF : r ∉ F) (o : COp) (hk : o.kind = 2) : Calls Try.prog 20 #[pp c, pp r, o.agg] w (StepP w c r most M C F o.t) := by
  obtain ⟨kind, t, k, s, x⟩ := o
  dsimp only at hk
  subst hk
  have hrl := lt_of_obj hr
  obtain ⟨W, hW⟩ : ∃ W, w.alloc (.cells #[.int .i64 2, .string t, .string k, .string s, .string x] 52) = W := ⟨_, rfl⟩
  have hFW : Fr [] w W := by rw [← hW]; exact (Fr.refl _ _).alloc _
  have hx : W.heap[w.heap.size]? = some (.cells (COp.mk 2 t k s x).cells 52 (0, 0)) := by rw [← hW]; exact heap_alloc w _
  have hnF : w.heap.size ∉ r :: F := by
    simp only [List.mem_cons, not_or]
    exact ⟨by omega, fun hm => by have := h.lt _ hm; omega⟩
  have HC := Lib.hid (h.fr hFW (by simp))
  have HR : Hid (R0 W r) := hFW.obj hr (by simp)
  have HX := Lib.hid (And.intro hx hnF)
  have HFW := Lib.hid hFW
  have HrF := Lib.hid (And.intro hrl hrF)
  obtain ⟨x1, x2, x3, x4, _⟩ := opS (S := r :: F) hx hnF (Fr.refl _ W)
  have x0 : W.cell? ⟨w.heap.size, 0, none⟩ = some (.int .i64 2) := cell_of hx 0
  have hs0 : w.heap.size < W.heap.size := lt_of_obj hx
  dsimp only at x1 x2 x3 x4
  clear h hr hrF hFW hx hnF
  show Calls Try.prog 20 #[pp c, pp r, .agg #[.int .i64 2, .string t, .string k, .string s, .string x]] w (StepP w c r most M C F t)
  go_enter Try.func20, Try.ntmps20
  go_wp2_with fail
  try rw [hW]
  refine (get_any2 HC.out t k s).mono ?_
  rintro e w4 ⟨rfl, hK4⟩
  have hX : Fr (r :: F) W w4 := hK4.2.mono (fun i hi => .inl (List.mem_cons_of_mem _ hi))
  obtain ⟨y1, y2, y3, y4, _⟩ := opS HX.out.1 HX.out.2 hX
  dsimp only at y1 y2 y3 y4
  have HK4 := Lib.hid hK4
  clear hK4
  go_wp2_with fail
  refine (rget_0 (HK4.out.2.obj HR.out HrF.out.2) t k s).mono ?_
  rintro e w5 ⟨rfl, hF5⟩
  have HF5 := Lib.hid hF5
  clear hF5
  go_wp2
  all_goals
    go_ret
    exact ⟨⟨_, rfl⟩, stepC_of HFW.out HK4.out HF5.out HrF.out.1 HrF.out.2 (fun u hu => ⟨upd_ne hu, setC_ne hu⟩)⟩

set_option maxRecDepth 100000 in
set_option maxHeartbeats 2000000 in
theorem stepc_3 (h : Cc w c most M C F) (hr : R0 w r) (hrF : r ∉ F) (o : COp) (hk : o.kind = 3) : Calls Try.prog 20 #[pp c, pp r, o.agg] w (StepP w c r most M C F o.t) := by
  obtain ⟨kind, t, k, s, x⟩ := o
  dsimp only at hk
  subst hk
  have hrl := lt_of_obj hr
  obtain ⟨W, hW⟩ : ∃ W, w.alloc (.cells #[.int .i64 3, .string t, .string k, .string s, .string x] 52) = W := ⟨_, rfl⟩
  have hFW : Fr [] w W := by rw [← hW]; exact (Fr.refl _ _).alloc _
  have hx : W.heap[w.heap.size]? = some (.cells (COp.mk 3 t k s x).cells 52 (0, 0)) := by rw [← hW]; exact heap_alloc w _
  have hnF : w.heap.size ∉ r :: F := by
    simp only [List.mem_cons, not_or]
    exact ⟨by omega, fun hm => by have := h.lt _ hm; omega⟩
  have HC := Lib.hid (h.fr hFW (by simp))
  have HR : Hid (R0 W r) := hFW.obj hr (by simp)
  have HX := Lib.hid (And.intro hx hnF)
  have HFW := Lib.hid hFW
  have HrF := Lib.hid (And.intro hrl hrF)
  obtain ⟨x1, x2, x3, x4, _⟩ := opS (S := r :: F) hx hnF (Fr.refl _ W)
  have x0 : W.cell? ⟨w.heap.size, 0, none⟩ = some (.int .i64 3) := cell_of hx 0
  have hs0 : w.heap.size < W.heap.size := lt_of_obj hx
  dsimp only at x1 x2 x3 x4
  clear h hr hrF hFW hx hnF
  show Calls Try.prog 20 #[pp c, pp r, .agg #[.int .i64 3, .string t, .string k, .string s, .string x]] w (StepP w c r most M C F t)
  go_enter Try.func20, Try.ntmps20
  go_wp2_with fail
  try rw [hW]
  refine (get_any2 HC.out t k s).mono ?_
  rintro e w4 ⟨rfl, hK4⟩
  have hX : Fr (r :: F) W w4 := hK4.2.mono (fun i hi => .inl (List.mem_cons_of_mem _ hi))
  obtain ⟨y1, y2, y3, y4, _⟩ := opS HX.out.1 HX.out.2 hX
  dsimp only at y1 y2 y3 y4
  have HK4 := Lib.hid hK4
  clear hK4
  go_wp2_with fail
  refine (rget_0 (HK4.out.2.obj HR.out HrF.out.2) t k s).mono ?_
  rintro e w5 ⟨rfl, hF5⟩
  have HF5 := Lib.hid hF5
  clear hF5
  go_wp2
  all_goals
    go_ret
    exact ⟨⟨_, rfl⟩, stepC_of HFW.out HK4.out HF5.out HrF.out.1 HrF.out.2 (fun u hu => ⟨upd_ne hu, setC_ne hu⟩)⟩

set_option maxRecDepth 100000 in
set_option maxHeartbeats 2000000 in
theorem stepc_4 (h : Cc w c most M C F) (hr : R0 w r) (hrF : r ∉ F) (o : COp) (hk : o.kind = 4) : Calls Try.prog 20 #[pp c, pp r, o.agg] w (StepP w c r most M C F o.t) := by
  obtain ⟨kind, t, k, s, x⟩ := o
  dsimp only at hk
  subst hk
  have hrl := lt_of_obj hr
  obtain ⟨W, hW⟩ : ∃ W, w.alloc (.cells #[.int .i64 4, .string t, .string k, .string s, .string x] 52) = W := ⟨_, rfl⟩
  have hFW : Fr [] w W := by rw [← hW]; exact (Fr.refl _ _).alloc _
  have hx : W.heap[w.heap.size]? = some (.cells (COp.mk 4 t k s x).cells 52 (0, 0)) := by rw [← hW]; exact heap_alloc w _
  have hnF : w.heap.size ∉ r :: F := by
    simp only [List.mem_cons, not_or]
    exact ⟨by omega, fun hm => by have := h.lt _ hm; omega⟩
  have HC := Lib.hid (h.fr hFW (by simp))
  have HR : Hid (R0 W r) := hFW.obj hr (by simp)
  have HX := Lib.hid (And.intro hx hnF)
  have HFW := Lib.hid hFW
  have HrF := Lib.hid (And.intro hrl hrF)
  obtain ⟨x1, x2, x3, x4, _⟩ := opS (S := r :: F) hx hnF (Fr.refl _ W)
  have x0 : W.cell? ⟨w.heap.size, 0, none⟩ = some (.int .i64 4) := cell_of hx 0
  have hs0 : w.heap.size < W.heap.size := lt_of_obj hx
  dsimp only at x1 x2 x3 x4
  clear h hr hrF hFW hx hnF
  show Calls Try.prog 20 #[pp c, pp r, .agg #[.int .i64 4, .string t, .string k, .string s, .string x]] w (StepP w c r most M C F t)
  go_enter Try.func20, Try.ntmps20
  go_wp2_with fail
  try rw [hW]
  go_region_held3 (fun w' => w'.cell? ⟨w.heap.size, 1, none⟩ = some (.string t) ∧ w'.cell? ⟨w.heap.size, 2, none⟩ = some (.string k) ∧ w'.cell? ⟨w.heap.size, 3, none⟩ = some (.string s) ∧ w'.cell? ⟨w.heap.size, 4, none⟩ = some (.string x) ∧ Fr (r :: F) W w') (exact opS (o := COp.mk _ t k s x) HX.out.1 HX.out.2 (by (repeat (first | with_reducible exact Fr.refl _ _ | assumption | with_reducible refine Fr.drew ?_ | with_reducible refine Fr.drewN ?_ _)))) (first
    | (go_at_call 23; refine (forget_any (HC.out.fr (S := []) (by (repeat (first | with_reducible exact Fr.refl _ _ | assumption | with_reducible refine Fr.drew ?_ | with_reducible refine Fr.drewN ?_ _))) (by simp)) t).mono ?_; rintro e w4 ⟨rfl, hK4⟩; have hk4 := Kept.drop (w := W) hK4 (by (repeat (first | with_reducible exact Fr.refl _ _ | assumption | with_reducible refine Fr.drew ?_ | with_reducible refine Fr.drewN ?_ _))); have hX : Fr (r :: F) W w4 := hk4.2.mono (fun i hi => .inl (List.mem_cons_of_mem _ hi)); have HK4 := Lib.hid hk4; clear hK4 hk4)
    | (go_at_call 50; refine (rforget_0 (HK4.out.2.obj HR.out HrF.out.2) t).mono ?_; rintro e w5 ⟨rfl, hF5⟩; have hX5 : Fr (r :: F) W w5 := hX.trans (hF5.mono (fun i hi => .inl (by rw [List.mem_singleton.1 hi]; simp))); have HF5 := Lib.hid hF5; clear hF5))
  all_goals
    go_wp2
    go_ret
    refine ⟨⟨_, rfl⟩, stepC_of HFW.out HK4.out (by first | exact HF5.out | exact HF5.out.drew) HrF.out.1 HrF.out.2 (fun u hu => ⟨upd_ne hu, rfl⟩)⟩
end
end Go.Proofs.Ytoichcjlfpijeaa
