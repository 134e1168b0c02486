/- LogqFits' walk. -/
import Derived.Test.YtaniaknphjnlkaaGreatDoorLqFitsR
import Derived.Test.YtaniaknphjnlkaaGreatDoorLqOneR
import Derived.Test.YtaniaknphjnlkaaGreatDoorMf37
import Derived.Deep.RegionHeld3
namespace Go.Proofs.YtaniaknphjnlkaaGreatDoor
open Go.RowKit Go.Bl Go.Lq

theorem cells4F {WE w' : World} {b : Nat} {x y z u : Value} {T : TypeId} (hE : WE.heap[b]? = some (.cells #[x, y, z, u] T (0, 0))) (hF : Fr [] WE w') :
    w'.cell? ⟨b, 0, none⟩ = some x ∧ w'.cell? ⟨b, 1, none⟩ = some y ∧ w'.cell? ⟨b, 2, none⟩ = some z ∧ w'.cell? ⟨b, 3, none⟩ = some u := by
  have h := hF.obj hE (by simp)
  exact ⟨cell_of h 0, cell_of h 1, cell_of h 2, cell_of h 3⟩
theorem range_fr {w w' : World} {b o : Nat} {cs : List Value} (h : w.rangeAt b o cs) (hF : Fr [] w w') : w'.rangeAt b o cs := fun j v hv => cell_frS hF (h j v hv) (by simp)
set_option maxRecDepth 100000 in
set_option maxHeartbeats 4000000 in
theorem fits_any (q : Qy) (r : Rc) (v v2 : Value) (w : World) (hG : GV w) (hX0 : GX w) (h8 : 8 ≤ w.heap.size) (hv : QyV w v q) (hr : RecV w v2 r) (hls : AtsShort r.attrs) (hms : MtsShort q.mat) (hts : MtsShort q.tests) (htx : r.text.size ≤ 2000000) :
    Calls Tryz.prog 5 #[v, v2] w fun e w' => e = .returned (.bool true) ∧ Fr [] w w' := by
  have HV := Lib.hid hv
  have HR := Lib.hid hr
  obtain ⟨_, _, rfl, ⟨A2, p2, rfl, z1, z2⟩, ⟨A4, p4, rfl, z3, z4⟩⟩ := hv
  obtain ⟨AA, ca, rfl, hat, t1, t2, t3⟩ := hr
  obtain ⟨L, hL⟩ : ∃ L, rcList (.slice AA r.attrs.length ca) r = L := ⟨_, rfl⟩
  obtain ⟨WA, hWA⟩ : ∃ WA, (w.alloc (.cells #[.slice A2 q.mat.length p2, .int .i64 q.level, .slice A4 q.tests.length p4, .int .i64 q.limit] 24)).alloc (.cells L.toArray 39) = WA := ⟨_, rfl⟩
  have hFA : Fr [] w WA := by rw [← hWA]; exact ((Fr.refl _ _).alloc _).alloc _
  have hB1 : WA.heap[w.heap.size]? = some (.cells #[.slice A2 q.mat.length p2, .int .i64 q.level, .slice A4 q.tests.length p4, .int .i64 q.limit] 24 (0, 0)) := by rw [← hWA]; exact Go.Bl.heap_alloc_old (heap_alloc w _) _
  have hB2 : WA.heap[w.heap.size + 1]? = some (.cells L.toArray 39 (0, 0)) := by
    rw [← hWA]
    have := heap_alloc (w.alloc (.cells #[.slice A2 q.mat.length p2, .int .i64 q.level, .slice A4 q.tests.length p4, .int .i64 q.limit] 24)) (.cells L.toArray 39)
    rw [size_alloc'] at this
    exact this
  have hLl : L.length = 40 := by rw [← hL]; exact rcList_len _ t1 t2 t3
  have hrg : WA.rangeAt (w.heap.size + 1) 0 L := by
    intro j v hv
    rw [Nat.zero_add, cell_of hB2 j]
    simpa using hv
  have hFB : Fr [] WA (WA.alloc (.cells L.toArray 39)) := (Fr.refl _ _).alloc _
  have hB3 : (WA.alloc (.cells L.toArray 39)).heap[WA.heap.size]? = some (.cells (rcList (.slice AA r.attrs.length ca) r).toArray 39 (0, 0)) := by rw [hL]; exact heap_alloc WA _
  have hln := lentR_any r WA.heap.size AA ca (WA.alloc (.cells L.toArray 39)) hB3 (hat.fr (hFA.trans hFB)) t1 t2 t3 hls.1
  have HA := Lib.hid (And.intro hFA (And.intro hB1 (And.intro hrg (And.intro hFB (And.intro hL (And.intro t1 (And.intro t2 t3)))))))
  have HLl := Lib.hid hLl
  have hLl2 : L.length = 40 := hLl
  rw [hL]
  clear z1 z2 z3 z4 hat hFA hB1 hB2 hrg hFB hB3 hL t1 t2 t3 hLl
  go_enter Tryz.func5, Tryz.ntmps5
  go_upto_region 1 with fail
  (try rw [hWA])
  clear hWA
  go_wp2_with (refine wpList_load_mid rfl 39 (.tmp 3) rfl (w.heap.size + 1) 0 (by simp [Act.eval]) L _ HA.out.2.2.1 Tryz.underlying39 rfl (by rw [HLl.out]; exact infoRc1) ?_)
  (try rw [fold_build _ _ (by rw [HLl.out]; rfl)])
  refine hln.mono ?_
  rintro e w1 ⟨g, cap, A9, c9, rfl, hF1, hr1, ha1⟩
  clear hln
  go_upto_region 2 with fail
  obtain ⟨LN, hLN⟩ : ∃ L, rcList (.slice A9 r.attrs.length c9) r = L := ⟨_, rfl⟩
  have hLNl : LN.length = 40 := by rw [← hLN]; exact rcList_len _ HA.out.2.2.2.2.2.1 HA.out.2.2.2.2.2.2.1 HA.out.2.2.2.2.2.2.2
  have hFA1 := HA.out.2.2.2.1.trans hF1
  have hFw1 := HA.out.1.trans hFA1
  rw [hLN] at hr1
  have HS : Hid (∀ w', Fr [] w1 w' → (w'.cell? ⟨w.heap.size, 0, none⟩ = some (.slice A2 q.mat.length p2) ∧ w'.cell? ⟨w.heap.size, 1, none⟩ = some (.int .i64 q.level) ∧ w'.cell? ⟨w.heap.size, 2, none⟩ = some (.slice A4 q.tests.length p4) ∧ w'.cell? ⟨w.heap.size, 3, none⟩ = some (.int .i64 q.limit) ∧ w'.rangeAt (w.heap.size + 1) 0 L ∧ w'.rangeAt g 0 LN ∧ Fr [] w1 w')) := fun w' hF => by
    obtain ⟨x0, x1, x2, x3⟩ := cells4F HA.out.2.1 (hFA1.trans hF)
    exact ⟨x0, x1, x2, x3, range_fr HA.out.2.2.1 (hFA1.trans hF), range_fr hr1 hF, hF⟩
  have HI : Hid ((Tryz.prog.info? 39).map (·.size) = some L.length ∧ (Tryz.prog.info? 39).map (·.size) = some LN.length) := ⟨by rw [HLl.out]; exact infoRc1, by rw [hLNl]; exact infoRc1⟩
  obtain ⟨bq, hbq⟩ : ∃ b, fitsQ q r.kind r.level r.attrs r.text.data.toList = b := ⟨_, rfl⟩
  have hrO : RecV w1 (.agg LN.toArray) r := ⟨A9, c9, by rw [hLN], ha1, HA.out.2.2.2.2.2.1, HA.out.2.2.2.2.2.2.1, HA.out.2.2.2.2.2.2.2⟩
  have hrR : RecV w1 (.agg L.toArray) r := by
    have := HR.out.fr hFw1
    rw [HA.out.2.2.2.2.1] at this
    exact this
  have H16 : Hid (∀ w', Fr [] w1 w' → Calls Tryz.prog 16 #[.agg #[.slice A2 q.mat.length p2, .int .i64 q.level, .slice A4 q.tests.length p4, .int .i64 q.limit], .agg LN.toArray] w' fun e w'' => e = .returned (.bool bq) ∧ Fr [] w' w'') := fun w' hF => by
    rw [← hbq]
    exact fitsQ_any q r _ _ w' (hX0.fr (hFw1.trans hF)) (HV.out.fr (hFw1.trans hF)) (hrO.fr hF) hls hms hts htx
  have H17 : Hid (∀ w', Fr [] w1 w' → Calls Tryz.prog 17 #[.agg #[.slice A2 q.mat.length p2, .int .i64 q.level, .slice A4 q.tests.length p4, .int .i64 q.limit], .agg L.toArray] w' fun e w'' => e = .returned (.bool bq) ∧ Fr [] w' w'') := fun w' hF => by
    rw [← hbq]
    exact fitsQR_any q r _ _ w' (HV.out.fr (hFw1.trans hF)) (hrR.fr hF) hls hms hts htx
  have H18 : Hid (∀ w', Fr [] w1 w' → Calls Tryz.prog 18 #[.agg LN.toArray, .agg L.toArray] w' fun e w'' => e = .returned (.bool true) ∧ Fr [] w' w'') := fun w' hF => by
    obtain ⟨B9, d9, e9, hb9, _⟩ := hrR
    have hone := one_any r A9 AA c9 ca w' (ha1.fr hF) (by obtain ⟨B8, d8, e8, hb8, _⟩ := HR.out; simp only [Value.agg.injEq, List.toArray_inj, rcList, List.cons.injEq, Value.slice.injEq] at e8; obtain ⟨_, _, ⟨rfl, _, rfl⟩, _⟩ := e8; exact hb8.fr (hFw1.trans hF)) HA.out.2.2.2.2.2.1 HA.out.2.2.2.2.2.2.1 HA.out.2.2.2.2.2.2.2 hls.1
    rw [hLN, HA.out.2.2.2.2.1] at hone
    exact hone
  have H8 : Hid (∀ w', Fr [] w1 w' → Calls Tryz.prog 8 #[] w' fun e w'' => e = .returned (.bool true) ∧ Fr [] w' w'') := fun w' hF =>
    known_any w' (hG.below (B := 8) ((hFw1.trans hF).below h8 (by simp)) (by omega)) (by have := (hFw1.trans hF).size; omega)
  have HFw1 := Lib.hid hFw1
  clear hF1 hr1 ha1 hLN hLNl hFA1 hFw1 hbq hrO hrR hLl2
  refine wp_region_held_drew (S := fun w' => w'.cell? ⟨w.heap.size, 0, none⟩ = some (.slice A2 q.mat.length p2) ∧ w'.cell? ⟨w.heap.size, 1, none⟩ = some (.int .i64 q.level) ∧ w'.cell? ⟨w.heap.size, 2, none⟩ = some (.slice A4 q.tests.length p4) ∧ w'.cell? ⟨w.heap.size, 3, none⟩ = some (.int .i64 q.limit) ∧ w'.rangeAt (w.heap.size + 1) 0 L ∧ w'.rangeAt g 0 LN ∧ Fr [] w1 w') (by kernel_rfl) (HS.out _ (Fr.refl _ _).drew) (fun hHeld => ?_)
  refine wpAnyH_take (i := 0) (oi := _) (v := ?_) rfl (by kernel_rfl) (by kernel_rfl) (by kernel_rfl) (fun _ _ _ h => h) (Or.inl ⟨by rfl, ?_⟩) (by assumption) ?_
  rotate_left
  · intro w hSw
    (try dsimp only at hSw)
    go_simp
    all_goals (with_reducible rfl)
  (try simp only [Act.put, List.setIfInBounds_toArray, List.set_cons_zero, List.set_cons_succ])
  refine wpAnyH_take (i := 1) (oi := _) (v := ?_) rfl (by kernel_rfl) (by kernel_rfl) (by kernel_rfl) (fun _ _ _ h => h) (Or.inl ⟨by rfl, ?_⟩) (by assumption) ?_
  rotate_left
  · intro w hSw
    (try dsimp only at hSw)
    go_simp
    all_goals (with_reducible rfl)
  (try simp only [Act.put, List.setIfInBounds_toArray, List.set_cons_zero, List.set_cons_succ])
  refine wpAnyH_take (i := 2) (oi := _) (v := ?_) rfl (by kernel_rfl) (by kernel_rfl) (by kernel_rfl) (fun _ _ _ h => h) (Or.inl ⟨by rfl, ?_⟩) (by assumption) ?_
  rotate_left
  · intro w hSw
    (try dsimp only at hSw)
    go_simp
    all_goals (with_reducible rfl)
  (try simp only [Act.put, List.setIfInBounds_toArray, List.set_cons_zero, List.set_cons_succ])
  refine wpAnyH_take (i := 3) (oi := _) rfl (by kernel_rfl) (by kernel_rfl) (by kernel_rfl) (fun _ _ _ h => h) (yieldsIf_load_mid (by rfl) 39 (.tmp 11) rfl g 0 (by simp [Act.eval]) LN _ (fun _ h => h.2.2.2.2.2.1) Tryz.underlying39 rfl HI.out.2) (by assumption) ?_
  (try simp only [Act.put, List.setIfInBounds_toArray, List.set_cons_zero, List.set_cons_succ])
  refine wpAnyH_take (i := 5) (oi := _) (v := ?_) rfl (by kernel_rfl) (by kernel_rfl) (by kernel_rfl) (fun _ _ _ h => h) (Or.inl ⟨by rfl, ?_⟩) (by assumption) ?_
  rotate_left
  · intro w hSw
    (try dsimp only at hSw)
    go_simp
    all_goals (with_reducible rfl)
  (try simp only [Act.put, List.setIfInBounds_toArray, List.set_cons_zero, List.set_cons_succ])
  refine wpAnyH_take (i := 6) (oi := _) rfl (by kernel_rfl) (by kernel_rfl) (by kernel_rfl) (fun _ _ _ h => h) (yieldsIf_load_mid (by rfl) 39 (.tmp 3) rfl (w.heap.size + 1) 0 (by simp [Act.eval]) L _ (fun _ h => h.2.2.2.2.1) Tryz.underlying39 rfl HI.out.1) (by assumption) ?_
  (try simp only [Act.put, List.setIfInBounds_toArray, List.set_cons_zero, List.set_cons_succ])
  refine wpAnyH_ready (rs := [4]) (by kernel_rfl) (by simp) ?_
  refine AllReadyH.cons (o := _) rfl (fun K hK => ?_) AllReadyH.nil
  go_simp
  refine (H16.out _ hHeld.2.2.2.2.2.2).mono ?_
  rintro e w2 ⟨rfl, hF4⟩
  have hT := hHeld.2.2.2.2.2.2.trans hF4
  refine hK.out _ _ (HS.out _ hT) (fun hHeld2 => ?_)
  clear hHeld hK hT hF4
  have hHeld := hHeld2
  clear hHeld2
  (try simp only [Act.put, List.setIfInBounds_toArray, List.set_cons_zero, List.set_cons_succ])
  refine wpAnyH_ready (rs := [7]) (by kernel_rfl) (by simp) ?_
  refine AllReadyH.cons (o := _) rfl (fun K hK => ?_) AllReadyH.nil
  go_simp
  refine (H17.out _ hHeld.2.2.2.2.2.2).mono ?_
  rintro e w3 ⟨rfl, hF7⟩
  have hT := hHeld.2.2.2.2.2.2.trans hF7
  refine hK.out _ _ (HS.out _ hT) (fun hHeld2 => ?_)
  clear hHeld hK hT hF7
  have hHeld := hHeld2
  clear hHeld2
  (try simp only [Act.put, List.setIfInBounds_toArray, List.set_cons_zero, List.set_cons_succ])
  refine wpAnyH_take (i := 8) (oi := _) (v := ?_) rfl (by kernel_rfl) (by kernel_rfl) (by kernel_rfl) (fun _ _ _ h => h) (Or.inl ⟨by rfl, ?_⟩) (by assumption) ?_
  rotate_left
  · intro w hSw
    (try dsimp only at hSw)
    go_simp
    all_goals (with_reducible rfl)
  (try simp only [Act.put, List.setIfInBounds_toArray, List.set_cons_zero, List.set_cons_succ])
  refine wpAnyH_take (i := 9) (oi := _) (v := ?_) rfl (by kernel_rfl) (by kernel_rfl) (by kernel_rfl) (fun _ _ _ h => h) (Or.inl ⟨by rfl, ?_⟩) (by assumption) ?_
  rotate_left
  · intro w hSw
    (try dsimp only at hSw)
    go_simp
    all_goals (with_reducible rfl)
  (try simp only [Act.put, List.setIfInBounds_toArray, List.set_cons_zero, List.set_cons_succ])
  refine wpAnyH_take (i := 10) (oi := _) (v := ?_) rfl (by kernel_rfl) (by kernel_rfl) (by kernel_rfl) (fun _ _ _ h => h) (Or.inl ⟨by rfl, ?_⟩) (by assumption) ?_
  rotate_left
  · intro w hSw
    (try dsimp only at hSw)
    go_simp
    all_goals (with_reducible rfl)
  (try simp only [Act.put, List.setIfInBounds_toArray, List.set_cons_zero, List.set_cons_succ])
  refine wpAnyH_take (i := 11) (oi := _) (v := ?_) rfl (by kernel_rfl) (by kernel_rfl) (by kernel_rfl) (fun _ _ _ h => h) (Or.inl ⟨by rfl, ?_⟩) (by assumption) ?_
  rotate_left
  · intro w hSw
    (try dsimp only at hSw)
    go_simp
    all_goals (with_reducible rfl)
  (try simp only [Act.put, List.setIfInBounds_toArray, List.set_cons_zero, List.set_cons_succ])
  refine wpAnyH_take (i := 12) (oi := _) rfl (by kernel_rfl) (by kernel_rfl) (by kernel_rfl) (fun _ _ _ h => h) (yieldsIf_load_mid (by rfl) 39 (.tmp 20) rfl g 0 (by simp [Act.eval]) LN _ (fun _ h => h.2.2.2.2.2.1) Tryz.underlying39 rfl HI.out.2) (by assumption) ?_
  (try simp only [Act.put, List.setIfInBounds_toArray, List.set_cons_zero, List.set_cons_succ])
  refine wpAnyH_take (i := 13) (oi := _) rfl (by kernel_rfl) (by kernel_rfl) (by kernel_rfl) (fun _ _ _ h => h) (yieldsIf_load_mid (by rfl) 39 (.tmp 3) rfl (w.heap.size + 1) 0 (by simp [Act.eval]) L _ (fun _ h => h.2.2.2.2.1) Tryz.underlying39 rfl HI.out.1) (by assumption) ?_
  (try simp only [Act.put, List.setIfInBounds_toArray, List.set_cons_zero, List.set_cons_succ])
  refine wpAnyH_ready (rs := [14]) (by kernel_rfl) (by simp) ?_
  refine AllReadyH.cons (o := _) rfl (fun K hK => ?_) AllReadyH.nil
  go_simp
  refine (H18.out _ hHeld.2.2.2.2.2.2).mono ?_
  rintro e w4 ⟨rfl, hF14⟩
  have hT := hHeld.2.2.2.2.2.2.trans hF14
  refine hK.out _ _ (HS.out _ hT) (fun hHeld2 => ?_)
  clear hHeld hK hT hF14
  have hHeld := hHeld2
  clear hHeld2
  (try simp only [Act.put, List.setIfInBounds_toArray, List.set_cons_zero, List.set_cons_succ])
  refine wpAnyH_take (i := 15) (oi := _) (v := ?_) rfl (by kernel_rfl) (by kernel_rfl) (by kernel_rfl) (fun _ _ _ h => h) (Or.inl ⟨by rfl, ?_⟩) (by assumption) ?_
  rotate_left
  · intro w hSw
    (try dsimp only at hSw)
    go_simp
    all_goals (with_reducible rfl)
  (try simp only [Act.put, List.setIfInBounds_toArray, List.set_cons_zero, List.set_cons_succ])
  refine wpAnyH_take (i := 16) (oi := _) (v := ?_) rfl (by kernel_rfl) (by kernel_rfl) (by kernel_rfl) (fun _ _ _ h => h) (Or.inl ⟨by rfl, ?_⟩) (by assumption) ?_
  rotate_left
  · intro w hSw
    (try dsimp only at hSw)
    go_simp
    all_goals (with_reducible rfl)
  (try simp only [Act.put, List.setIfInBounds_toArray, List.set_cons_zero, List.set_cons_succ])
  refine wpAnyH_ready (rs := [17]) (by kernel_rfl) (by simp) ?_
  refine AllReadyH.cons (o := _) rfl (fun K hK => ?_) AllReadyH.nil
  go_simp
  refine (H8.out _ hHeld.2.2.2.2.2.2).mono ?_
  rintro e w5 ⟨rfl, hF17⟩
  have hT := hHeld.2.2.2.2.2.2.trans hF17
  refine hK.out _ _ (HS.out _ hT) (fun hHeld2 => ?_)
  clear hHeld hK hT hF17
  have hHeld := hHeld2
  clear hHeld2
  (try simp only [Act.put, List.setIfInBounds_toArray, List.set_cons_zero, List.set_cons_succ])
  refine wpAnyH_take (i := 18) (oi := _) (v := ?_) rfl (by kernel_rfl) (by kernel_rfl) (by kernel_rfl) (fun _ _ _ h => h) (Or.inl ⟨by rfl, ?_⟩) (by assumption) ?_
  rotate_left
  · intro w hSw
    (try dsimp only at hSw)
    go_simp
    all_goals (with_reducible rfl)
  (try simp only [Act.put, List.setIfInBounds_toArray, List.set_cons_zero, List.set_cons_succ])
  refine wpAnyH_take (i := 19) (oi := _) (v := ?_) rfl (by kernel_rfl) (by kernel_rfl) (by kernel_rfl) (fun _ _ _ h => h) (Or.inl ⟨by rfl, ?_⟩) (by assumption) ?_
  rotate_left
  · intro w hSw
    (try dsimp only at hSw)
    go_simp
    all_goals (with_reducible rfl)
  (try simp only [Act.put, List.setIfInBounds_toArray, List.set_cons_zero, List.set_cons_succ])
  refine wpAnyH_done (by kernel_rfl) ?_ _
  have hT := hHeld.2.2.2.2.2.2
  clear hHeld
  go_wp2_with fail
  go_ret
  exact ⟨rfl, HFw1.out.trans hT⟩
end Go.Proofs.YtaniaknphjnlkaaGreatDoor
