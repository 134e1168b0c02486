/- The cache: Get. -/
import Derived.Test.YtoichcjlfpijeaaCClos
namespace Go.Proofs.Ytoichcjlfpijeaa
open Go.RowKit Go.Bl

/-- Of the ways out of a piece one alone is asked. -/
theorem wp_calm {P : Program} {c : Code} {K : Act → World → Prop} {Q : Exit → Act → World → Prop} {a : Act} {w : World} (h : c.wp P (Exit.then K fun _ _ _ => False) a w) : c.wp P (Exit.then K Q) a w :=
  wp_mono h fun e _ _ hq => by cases e <;> first | exact hq | exact hq.elim

theorem quiet_sym {P : Program} {f : FuncId} {args : Array Value} {w : World} {n : Nat} {v : Value} (h : Calls P f args (w.drewN n) fun e w' => e = .returned v ∧ w.drewN n = w') : Calls P f args (w.drewN n) fun e w'' => e = .returned v ∧ ∃ m, w'' = w.drewN m :=
  h.mono fun _ _ ⟨he, hm⟩ => ⟨he, n, hm.symm⟩

theorem cget_nil (t k s : ByteArray) (w : World) : Calls Try.prog 21 #[.pointer none, .string t, .string k, .string s] w fun e w' => e = .returned (.tuple #[.string ⟨#[]⟩, .bool false]) ∧ Fr [] w w' := by
  go_enter Try.func21, Try.ntmps21
  go_wp2
  go_ret2
  exact ⟨rfl, ((Fr.refl _ _).alloc _).alloc _⟩

theorem adel_none {w : World} {l : Nat} {most : Int} {L : List Ent1} {F : List Nat} (h : LruA w l most L F) (k : ByteArray) (hk : findE L k = none) : Calls Try.prog 53 #[pp l, .string k] w fun e w' => e = .returned (.bool false) ∧ w = w' := by
  obtain ⟨m, N, h1, rfl, rfl⟩ := h
  refine del_none h1 k (pf_none.2 fun x hx e => ?_)
  unfold findE at hk
  rw [List.find?_eq_none] at hk
  have := hk x.2 (List.mem_map.2 ⟨x, hx, rfl⟩)
  simp [e] at this
theorem hasE_none {L : List Ent1} {k : ByteArray} (h : findE L k = none) : hasE L k = false := by
  unfold findE at h
  rw [List.find?_eq_none] at h
  unfold hasE
  rw [List.any_eq_false]
  exact fun e he => by simpa using h e he
theorem hasE_some {L : List Ent1} {k : ByteArray} {e : Ent1} (h : findE L k = some e) : hasE L k = true := by
  unfold findE at h
  unfold hasE
  rw [List.any_eq_true]
  have h2 := List.find?_some h
  exact ⟨e, List.mem_of_find?_eq_some h, h2⟩
theorem hasE_touch {L : List Ent1} {k : ByteArray} {e : Ent1} (h : findE L k = some e) : hasE (touchE L k) k = true := by
  unfold touchE
  rw [h]
  unfold findE at h
  have := List.find?_some h
  unfold hasE
  simp only [List.any_cons]
  simp at this
  simp [this]

section
variable {w : World} {c mm mc : Nat} {most : Int} {f : ByteArray → Option Value} {n : Nat} {g : ByteArray → Option Value} {nc : Nat} {M : ByteArray → Option (List Ent1)} {C : ByteArray → Int × Int} {G : ByteArray → List Nat} {F : List Nat}

abbrev W3 (w : World) (c : Nat) (t : ByteArray) (x y : Int) : World := ((w.alloc (.cells #[pp c] 48)).alloc (.cells #[.string t] 9)).alloc (.cells #[.int .i64 x, .int .i64 y] 64)
theorem w3_fr (w : World) (c : Nat) (t : ByteArray) (x y : Int) : Fr [] w (W3 w c t x y) := (((Fr.refl _ _).alloc _).alloc _).alloc _
theorem w3_size (w : World) (c : Nat) (t : ByteArray) (x y : Int) : (W3 w c t x y).heap.size = w.heap.size + 3 := by simp
theorem w3_b0 (w : World) (c : Nat) (t : ByteArray) (x y : Int) : (W3 w c t x y).heap[w.heap.size]? = some (.cells #[pp c] 48 (0, 0)) :=
  Go.Bl.heap_alloc_old (Go.Bl.heap_alloc_old (heap_alloc w _) _) _
theorem w3_b1 (w : World) (c : Nat) (t : ByteArray) (x y : Int) : (W3 w c t x y).heap[w.heap.size + 1]? = some (.cells #[.string t] 9 (0, 0)) := by
  have := heap_alloc (w.alloc (.cells #[pp c] 48)) (.cells #[.string t] 9)
  rw [size_alloc'] at this
  exact Go.Bl.heap_alloc_old this _
theorem w3_b2 (w : World) (c : Nat) (t : ByteArray) (x y : Int) : (W3 w c t x y).heap[w.heap.size + 2]? = some (.cells #[.int .i64 x, .int .i64 y] 64 (0, 0)) := by
  have := heap_alloc ((w.alloc (.cells #[pp c] 48)).alloc (.cells #[.string t] 9)) (.cells #[.int .i64 x, .int .i64 y] 64)
  rw [size_alloc', size_alloc'] at this
  exact this

/-- What the calls within Get leave as it is: the boxes, the cache. -/
structure GW (W : World) (B c mm mc : Nat) (most : Int) (f : ByteArray → Option Value) (n : Nat) (g : ByteArray → Option Value) (nc : Nat) (M : ByteArray → Option (List Ent1)) (C : ByteArray → Int × Int) (G : ByteArray → List Nat) (F : List Nat) (t : ByteArray) (x y : Int) : Prop where
  o : CacheO W c mm mc most f n g nc M C G F
  b0 : W.heap[B]? = some (.cells #[pp c] 48 (0, 0))
  b1 : W.heap[B + 1]? = some (.cells #[.string t] 9 (0, 0))
  b2 : W.heap[B + 1 + 1]? = some (.cells #[.int .i64 x, .int .i64 y] 64 (0, 0))
  ne : ∀ i ∈ F, i ≠ B ∧ i ≠ B + 1 ∧ i ≠ B + 1 + 1
theorem GW.fr {W W' : World} {B : Nat} {t : ByteArray} {x y : Int} {S : List Nat} (h : GW W B c mm mc most f n g nc M C G F t x y) (hF : Fr S W W') (hS : ∀ i ∈ F, i ∉ S) (hB : B ∉ S ∧ B + 1 ∉ S ∧ B + 1 + 1 ∉ S) : GW W' B c mm mc most f n g nc M C G F t x y :=
  ⟨h.o.fr hF hS, hF.obj h.b0 hB.1, hF.obj h.b1 hB.2.1, hF.obj h.b2 hB.2.2, h.ne⟩
theorem GW.S {W W' : World} {B : Nat} {t : ByteArray} {x y : Int} {v : Value} {S : List Nat} (h : GW W B c mm mc most f n g nc M C G F t x y) (hv : (f t).getD (.pointer none) = v) (hS : ∀ i ∈ S, i ∈ F ∧ i ≠ c ∧ i ≠ mm) (hF : Fr S W W') :
    W'.cell? ⟨B, 0, none⟩ = some (pp c) ∧ W'.cell? ⟨c, 1, none⟩ = some (.map (some mm)) ∧ W'.cell? ⟨B + 1, 0, none⟩ = some (.string t) ∧ (Instr.lookup 97 (.map (some mm)) (.string t) false).run Try.prog W' = .ok v W' ∧ Fr S W W' := by
  subst hv
  have n0 : B ∉ S := fun hm => (h.ne _ (hS _ hm).1).1 rfl
  have n1 : B + 1 ∉ S := fun hm => (h.ne _ (hS _ hm).1).2.1 rfl
  have nc : c ∉ S := fun hm => (hS _ hm).2.1 rfl
  have nm : mm ∉ S := fun hm => (hS _ hm).2.2 rfl
  exact ⟨cell_of (hF.obj h.b0 n0) 0, cell_of (hF.obj h.o.cell nc) 1, cell_of (hF.obj h.b1 n1) 0, (h.o.tm.fr hF nm).lookup Try.underlying97 Try.underlying9 zero104 t false, hF⟩

abbrev worldOf {S : List Nat} {W W' : World} (_ : Fr S W W') : World := W'
/-- A count in the box goes up. -/
theorem GW.box {W : World} {B : Nat} {t : ByteArray} {x y : Int} (h : GW W B c mm mc most f n g nc M C G F t x y) (o : Nat) (x' y' : Int) (v : Value) (he : (#[Value.int .i64 x, .int .i64 y] : Array Value).setIfInBounds o v = #[.int .i64 x', .int .i64 y']) :
    GW (W.setCell ⟨B + 1 + 1, o, none⟩ v) B c mm mc most f n g nc M C G F t x' y' ∧ Fr [B + 1 + 1] W (W.setCell ⟨B + 1 + 1, o, none⟩ v) := by
  have hF : Fr [B + 1 + 1] W (W.setCell ⟨B + 1 + 1, o, none⟩ v) := (Fr.refl _ W).setCell1 o v
  refine ⟨⟨h.o.fr hF (fun i hi => by have := (h.ne i hi).2.2; simpa using this), hF.obj h.b0 (by simp; omega), hF.obj h.b1 (by simp), ?_, h.ne⟩, hF⟩
  have := heap_setCell h.b2 o v
  rw [he] at this; exact this

def CGetPost (w : World) (c mm mc : Nat) (most : Int) (M : ByteArray → Option (List Ent1)) (C : ByteArray → Int × Int) (F : List Nat) (w' : World) : Prop :=
  (∃ f' n' g' nc' G' F', CacheO w' c mm mc most f' n' g' nc' M C G' F' ∧ ∀ i ∈ F', i ∈ F ∨ w.heap.size ≤ i) ∧ Fr F w w'

theorem GW.touch {W W5 : World} {B l : Nat} {t : ByteArray} {x y : Int} {L : List Ent1} {F5 : List Nat} (h : GW W B c mm mc most f n g nc M C G F t x y) (ht : f t = some (pp l)) (hF : Fr (G t) W W5) (hL : LruA W5 l most L F5) (hlen : (L.length : Int) ≤ most) (hs : ∀ i ∈ F5, i ∈ G t ∨ W.heap.size ≤ i) (hB : B + 1 + 1 < W.heap.size) :
    GW W5 B c mm mc most f n g nc (fun u => if u = t then some L else M u) C (fun u => if u = t then F5 else G u) (F5 ++ F) t x y := by
  have hft : f t ≠ none := by rw [ht]; simp
  have hg : ∀ i ∈ G t, i ≠ B ∧ i ≠ B + 1 ∧ i ≠ B + 1 + 1 := fun i hi => h.ne i (h.o.gF t hft i hi)
  refine ⟨h.o.touch t l L F5 ht hF hL hlen hs, hF.obj h.b0 (fun hm => (hg _ hm).1 rfl), hF.obj h.b1 (fun hm => (hg _ hm).2.1 rfl), hF.obj h.b2 (fun hm => (hg _ hm).2.2 rfl), fun i hi => ?_⟩
  rcases List.mem_append.1 hi with h1 | h1
  · rcases hs i h1 with h2 | h2
    · exact hg i h2
    · exact ⟨by omega, by omega, by omega⟩
  · exact h.ne i h1

set_option maxRecDepth 100000 in
set_option maxHeartbeats 2000000 in
theorem cget_A (h : CacheO w c mm mc most f n g nc M C G F) (t k s : ByteArray) (ht : f t = none) :
    Calls Try.prog 21 #[pp c, .string t, .string k, .string s] w fun e w' => e = .returned (.tuple #[.string ⟨#[]⟩, .bool false]) ∧ ClosPost w c mm mc most f n M (setC C t ((C t).1, wrap64 ((C t).2 + 1))) G F w' := by
  have HV : Hid ((f t).getD (.pointer none) = .pointer none) := by show _ = _; rw [ht]; rfl
  obtain ⟨ST, hST⟩ : ∃ ST : List Nat, ST = [] := ⟨_, rfl⟩
  have HS : Hid (∀ i ∈ ST, i ∈ F ∧ i ≠ c ∧ i ≠ mm) := fun i hi => by rw [hST] at hi; simp at hi
  have HST := Lib.hid hST
  clear ht hST
  have hmf : ∀ (fn : Fn) (first cap : Array Value) (w : World), (Instr.makeFunc fn first cap).run Try.prog w = .ok (.func fn first cap) w := fun _ _ _ _ => rfl
  have H := Lib.hid h
  have hF0 : Fr [] w (((w.alloc (.cells #[pp c] 48)).alloc (.cells #[.string t] 9)).drew) := (((Fr.refl _ _).alloc _).alloc _).drew
  have hlc := (h.fr hF0 (by simp)).lookc t
  have hlc2 := (h.fr (w3_fr w c t 0 0).drew (by simp)).lookc t
  have c2 : ((w.alloc (.cells #[pp c] 48)).alloc (.cells #[.string t] 9)).cell? ⟨c, 2, none⟩ = some (.map (some mc)) := cell_of (h.fr hF0 (by simp)).cell 2
  have c3 : (((w.alloc (.cells #[pp c] 48)).alloc (.cells #[.string t] 9)).alloc (.cells #[.int .i64 0, .int .i64 0] 64)).cell? ⟨c, 2, none⟩ = some (.map (some mc)) := cell_of (h.fr (w3_fr w c t 0 0) (by simp)).cell 2
  obtain ⟨x, hx⟩ : ∃ x, (C t).1 = x := ⟨_, rfl⟩
  obtain ⟨y, hy⟩ : ∃ y, (C t).2 = y := ⟨_, rfl⟩
  rw [hx, hy] at hlc hlc2
  try rw [hx]
  try rw [hy]
  clear h hF0 hx hy
  go_enter_defers Try.func21, Try.ntmps21
  go_wp2
  go_region
  all_goals
    go_wp2
    have HG : Hid (GW (W3 w c t x y).drew w.heap.size c mm mc most f n g nc M C G F t x y ∧ Fr [] w (W3 w c t x y).drew) := ⟨⟨H.out.fr (w3_fr w c t x y).drew (by simp), w3_b0 w c t x y, w3_b1 w c t x y, w3_b2 w c t x y, fun i hi => by have := H.out.lt i hi; exact ⟨by omega, by omega, by omega⟩⟩, (w3_fr w c t x y).drew⟩
    have hs0 : w.heap.size + 2 < (W3 w c t x y).drew.heap.size := by show _ < (W3 w c t x y).heap.size; rw [w3_size]; omega
    obtain ⟨W, hW⟩ : ∃ W, (W3 w c t x y).drew = W := ⟨_, rfl⟩
    rw [hW] at HG hs0
    obtain ⟨g0, g1, g2, g3, _⟩ := HG.out.1.S HV.out HS.out (Fr.refl _ W)
    rw [hW]
    clear hW hlc hlc2 c2 c3
    go_region_held3 (fun w' => w'.cell? ⟨w.heap.size, 0, none⟩ = some (pp c) ∧ w'.cell? ⟨c, 1, none⟩ = some (.map (some mm)) ∧ w'.cell? ⟨w.heap.size + 1, 0, none⟩ = some (.string t) ∧ (Instr.lookup 97 (.map (some mm)) (.string t) false).run Try.prog w' = .ok (.pointer none) w' ∧ Fr ST W w') (exact HG.out.1.S HV.out HS.out (by (repeat (first | with_reducible exact Fr.refl _ _ | assumption | with_reducible refine Fr.drew ?_ | with_reducible refine Fr.alloc ?_ _ | with_reducible refine Fr.setCell ?_ (.inr (by first | exact Nat.le_refl _ | (simp; done) | (simp; omega))) _)))) (first | (go_at_call 52; refine (get_nil _ _).mono ?_; rintro e w4 ⟨rfl, hF4⟩; replace hF4 := hF4.mono (T := ST) (by simp); have hX : Fr ST W w4 := Fr.trans (by (repeat (first | with_reducible exact Fr.refl _ _ | assumption | with_reducible refine Fr.drew ?_ | with_reducible refine Fr.alloc ?_ _ | with_reducible refine Fr.setCell ?_ (.inr (by first | exact Nat.le_refl _ | (simp; done) | (simp; omega))) _))) hF4; have HXS : Hid (W.heap.size ≤ w4.heap.size) := hX.size; (first | (have z : w4.heap[W.heap.size]? = some (.cells #[.string ⟨#[]⟩, .string ⟨#[]⟩] 102 (0, 0)) := hF4.obj (heap_alloc W _) (fun hm => by have := HG.out.1.o.lt _ (HS.out _ hm).1; omega); have z0 : w4.cell? ⟨W.heap.size, 0, none⟩ = some (.string ⟨#[]⟩) := cell_of z 0; have z1 : w4.cell? ⟨W.heap.size, 1, none⟩ = some (.string ⟨#[]⟩) := cell_of z 1; have zf := frozen_of z; have z2 : (w4.setCell ⟨W.heap.size, 0, none⟩ (.string ⟨#[]⟩)).cell? ⟨W.heap.size, 1, none⟩ = some (.string ⟨#[]⟩) := (sc_other _ _ (by simp)).trans z1; have z3 : (w4.setCell ⟨W.heap.size, 0, none⟩ (.string ⟨#[]⟩)).cell? ⟨W.heap.size, 0, none⟩ = some (.string ⟨#[]⟩) := sc_same _ z0; have z4 : ((w4.setCell ⟨W.heap.size, 0, none⟩ (.string ⟨#[]⟩)).setCell ⟨W.heap.size, 1, none⟩ (.string ⟨#[]⟩)).cell? ⟨W.heap.size, 0, none⟩ = some (.string ⟨#[]⟩) := (sc_other _ _ (by simp)).trans z3; have z5 : ((w4.setCell ⟨W.heap.size, 0, none⟩ (.string ⟨#[]⟩)).setCell ⟨W.heap.size, 1, none⟩ (.string ⟨#[]⟩)).cell? ⟨W.heap.size, 1, none⟩ = some (.string ⟨#[]⟩) := sc_same _ z2; clear z; skip) | skip)))
    all_goals
      rename_i hh
      obtain ⟨q0, q1, q2, q3, q4⟩ := hh
      obtain ⟨W5, hW5⟩ : ∃ W5, W5 = worldOf q4 := ⟨_, rfl⟩
      dsimp only [worldOf] at hW5
      rw [← hW5] at q0 q1 q2 q3 q4 ⊢
      clear hW5
      have hG5 : Hid (GW W5 w.heap.size c mm mc most f n g nc M C G F t x y ∧ Fr [] w W5) := by
        rw [HST.out] at q4
        exact ⟨HG.out.1.fr q4 (by simp) (by simp), HG.out.2.trans q4⟩
      have m1 : W5.cell? ⟨w.heap.size + 1 + 1, 1, none⟩ = some (.int .i64 y) := cell_of hG5.out.1.b2 1
      have mf := frozen_of hG5.out.1.b2
      have hG6 : Hid (GW (W5.setCell ⟨w.heap.size + 1 + 1, 1, none⟩ (.int .i64 (wrap64 (y + 1)))) w.heap.size c mm mc most f n g nc M C G F t x (wrap64 (y + 1)) ∧ Fr [w.heap.size + 1 + 1] W5 (W5.setCell ⟨w.heap.size + 1 + 1, 1, none⟩ (.int .i64 (wrap64 (y + 1))))) := hG5.out.1.box 1 x (wrap64 (y + 1)) (.int .i64 (wrap64 (y + 1))) rfl
      have s6 : ∀ j, _ := fun j => hG6.out.1.S HV.out HS.out ((Fr.refl ST _).drewN j)
      have l6 : ∀ j, (Instr.lookup 97 (.map (some mm)) (.string t) false).run Try.prog ((W5.setCell ⟨w.heap.size + 1 + 1, 1, none⟩ (.int .i64 (wrap64 (y + 1)))).drewN j) = .ok (.pointer none) ((W5.setCell ⟨w.heap.size + 1 + 1, 1, none⟩ (.int .i64 (wrap64 (y + 1)))).drewN j) := fun j => (s6 j).2.2.2.1
      have e0 : (W5.setCell ⟨w.heap.size + 1 + 1, 1, none⟩ (.int .i64 (wrap64 (y + 1)))).cell? ⟨w.heap.size, 0, none⟩ = some (pp c) := (s6 0).1
      have e1 : (W5.setCell ⟨w.heap.size + 1 + 1, 1, none⟩ (.int .i64 (wrap64 (y + 1)))).cell? ⟨c, 1, none⟩ = some (.map (some mm)) := (s6 0).2.1
      have e2 : (W5.setCell ⟨w.heap.size + 1 + 1, 1, none⟩ (.int .i64 (wrap64 (y + 1)))).cell? ⟨w.heap.size + 1, 0, none⟩ = some (.string t) := (s6 0).2.2.1
      clear s6 q0 q1 q2 q3 q4 g0 g1 g2 g3
      go_wp2
      go_quiet ((go_at_call 53; exact quiet_sym (del_nil _ _)))
      go_wp2
      have hG7 := hG6.out.1.fr ((Fr.refl [] _).drewN nq) (by simp) (by simp)
      refine leaves_cons (f := 51) (args := #[pp (w.heap.size + 1 + 1), pp w.heap.size, pp (w.heap.size + 1)]) (by simp) (by simp [go_sem]) ?_
      refine (clos_d hG7.o (w.heap.size + 1 + 1) w.heap.size (w.heap.size + 1) t x (wrap64 (y + 1)) .returning (cell_of hG7.b2 0) (cell_of hG7.b2 1) (cell_of hG7.b0 0) (cell_of hG7.b1 0)).mono ?_
      rintro e u' w8 ⟨rfl, rfl, hP⟩
      refine ⟨_, by simp [results, Try.results21, go_sem], rfl, hP.1, ?_⟩
      exact fr_then (((hG5.out.2.new hG6.out.2 (by simp; omega)).drewN nq).mono (T := [mc]) (by simp)) hP.2 (fun i hi => .inl hi)
end
end Go.Proofs.Ytoichcjlfpijeaa
