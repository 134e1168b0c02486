/- The cache: Get, one way of it. -/
import Derived.Test.YtoichcjlfpijeaaCGet
namespace Go.Proofs.Ytoichcjlfpijeaa
open Go.RowKit Go.Bl
section
variable {w : World} {c mm mc : Nat} {most : Int} {f : ByteArray → Option Value} {n : Nat} {g : ByteArray → Option Value} {nc : Nat} {M : ByteArray → Option (List Ent1)} {C : ByteArray → Int × Int} {G : ByteArray → List Nat} {F : List Nat}

set_option maxRecDepth 100000 in
set_option maxHeartbeats 4000000 in
theorem cget_C1 (h : CacheO w c mm mc most f n g nc M C G F) (t k s : ByteArray) (l : Nat) (L : List Ent1) (ht : f t = some (pp l)) (hL : LruA w l most L (G t)) (hlen : (L.length : Int) ≤ most) (e0 : Ent1) (ho : findE L k = some e0) (hs : ¬ e0.s.toList = s.toList) (hz : (delE (touchE L k) k).length ≠ 0) :
    Calls Try.prog 21 #[pp c, .string t, .string k, .string s] w fun e w' => e = .returned (.tuple #[.string ⟨#[]⟩, .bool false]) ∧ CGetPost w c mm mc most (fun u => if u = t then some (delE (touchE L k) k) else (if u = t then some (touchE L k) else M u)) (setC C t ((C t).1, wrap64 ((C t).2 + 1))) F w' := by
  have hft : f t ≠ none := by rw [ht]; simp
  have HV : Hid ((f t).getD (.pointer none) = pp l) := by show _ = _; rw [ht]; rfl
  obtain ⟨ST, hST⟩ : ∃ ST : List Nat, ST = G t := ⟨_, rfl⟩
  have HS : Hid (∀ i ∈ ST, i ∈ F ∧ i ≠ c ∧ i ≠ mm) := fun i hi => by
    rw [hST] at hi
    exact ⟨h.gF t hft i hi, (h.own t hft i hi).1, (h.own t hft i hi).2.1⟩
  have HST := Lib.hid hST
  have HLw := Lib.hid hL
  have HT := Lib.hid (And.intro ht hft)
  have HAG : Hid (∀ X : World, LruA X l most L (G t) → Calls Try.prog 52 #[pp l, .string k] X fun e w' => e = .returned (.tuple #[.agg #[.string e0.s, .string e0.t], .bool true]) ∧ (∃ F', LruA w' l most (touchE L k) F' ∧ ∀ i ∈ F', i ∈ G t ∨ X.heap.size ≤ i) ∧ Fr (G t) X w') := fun X hX => by
    have := aget hX k
    rw [ho] at this
    exact this
  have HO := Lib.hid ho
  have htl : ((touchE L k).length : Int) ≤ most := by have := touchE_len L k; omega
  have HTL := Lib.hid htl
  have HAD : Hid (∀ (F5x : List Nat) (X : World), LruA X l most (touchE L k) F5x → Calls Try.prog 53 #[pp l, .string k] X fun e w' => e = .returned (.bool true) ∧ (∃ F', LruA w' l most (delE (touchE L k) k) F' ∧ ∀ i ∈ F', i ∈ F5x ∨ X.heap.size ≤ i) ∧ Fr F5x X w')   := fun F5x X hX => by
    have := adel hX k
    rw [hasE_touch ho] at this
    exact this
  have HLN : Hid (∀ (F7x : List Nat) (X : World), LruA X l most (delE (touchE L k) k) F7x → Calls Try.prog 54 #[pp l] X fun e w' => e = .returned (.int .i64 (delE (touchE L k) k).length) ∧ X = w') := fun F7x X hX => alen hX
  have hzz : (((delE (touchE L k) k).length : Int) == 0) = false := by simpa using hz
  have hs2 : (e0.s.toList == s.toList) = false := by simpa using hs
  clear hz
  clear ht hST hft hL ho hlen htl
  have hmf : ∀ (fn : Fn) (first cap : Array Value) (w : World), (Instr.makeFunc fn first cap).run Try.prog w = .ok (.func fn first cap) w := fun _ _ _ _ => rfl
  have H := Lib.hid h
  have hF0 : Fr [] w (((w.alloc (.cells #[pp c] 48)).alloc (.cells #[.string t] 9)).drew) := (((Fr.refl _ _).alloc _).alloc _).drew
  have hlc := (h.fr hF0 (by simp)).lookc t
  have hlc2 := (h.fr (w3_fr w c t 0 0).drew (by simp)).lookc t
  have c2 : ((w.alloc (.cells #[pp c] 48)).alloc (.cells #[.string t] 9)).cell? ⟨c, 2, none⟩ = some (.map (some mc)) := cell_of (h.fr hF0 (by simp)).cell 2
  have c3 : (((w.alloc (.cells #[pp c] 48)).alloc (.cells #[.string t] 9)).alloc (.cells #[.int .i64 0, .int .i64 0] 64)).cell? ⟨c, 2, none⟩ = some (.map (some mc)) := cell_of (h.fr (w3_fr w c t 0 0) (by simp)).cell 2
  obtain ⟨x, hx⟩ : ∃ x, (C t).1 = x := ⟨_, rfl⟩
  obtain ⟨y, hy⟩ : ∃ y, (C t).2 = y := ⟨_, rfl⟩
  rw [hx, hy] at hlc hlc2
  try rw [hx]
  try rw [hy]
  clear h hF0 hx hy
  go_enter_defers Try.func21, Try.ntmps21
  go_wp2
  go_region
  all_goals
    go_wp2
    have HG : Hid (GW (W3 w c t x y).drew w.heap.size c mm mc most f n g nc M C G F t x y ∧ Fr [] w (W3 w c t x y).drew) := ⟨⟨H.out.fr (w3_fr w c t x y).drew (by simp), w3_b0 w c t x y, w3_b1 w c t x y, w3_b2 w c t x y, fun i hi => by have := H.out.lt i hi; exact ⟨by omega, by omega, by omega⟩⟩, (w3_fr w c t x y).drew⟩
    have hs0 : w.heap.size + 2 < (W3 w c t x y).drew.heap.size := by show _ < (W3 w c t x y).heap.size; rw [w3_size]; omega
    obtain ⟨W, hW⟩ : ∃ W, (W3 w c t x y).drew = W := ⟨_, rfl⟩
    rw [hW] at HG hs0
    obtain ⟨g0, g1, g2, g3, _⟩ := HG.out.1.S HV.out HS.out (Fr.refl _ W)
    have HLW := Lib.hid (HLw.out.fr HG.out.2 (by simp))
    rw [hW]
    clear hW hlc hlc2 c2 c3
    go_region_held3 (fun w' => w'.cell? ⟨w.heap.size, 0, none⟩ = some (pp c) ∧ w'.cell? ⟨c, 1, none⟩ = some (.map (some mm)) ∧ w'.cell? ⟨w.heap.size + 1, 0, none⟩ = some (.string t) ∧ (Instr.lookup 97 (.map (some mm)) (.string t) false).run Try.prog w' = .ok (pp l) w' ∧ Fr ST W w') (exact HG.out.1.S HV.out HS.out (by (repeat (first | with_reducible exact Fr.refl _ _ | assumption | with_reducible refine Fr.drew ?_ | with_reducible refine Fr.alloc ?_ _ | with_reducible refine Fr.setCell ?_ (.inr (by first | exact Nat.le_refl _ | (simp; done) | (simp; omega))) _)))) (first | (go_at_call 52; refine (HAG.out _ (HLW.out.fr (S := []) (by (repeat (first | with_reducible exact Fr.refl _ _ | assumption | with_reducible refine Fr.drew ?_ | with_reducible refine Fr.alloc ?_ _ | with_reducible refine Fr.setCell ?_ (.inr (by first | exact Nat.le_refl _ | (simp; done) | (simp; omega))) _))) (by simp))).mono ?_; rintro e w4 ⟨rfl, ⟨F5, hL5, hsub5⟩, hF4⟩; replace hF4 := hF4.mono (T := ST) (fun i hi => .inl (by rw [HST.out]; exact hi)); have HL5 := Lib.hid hL5; have hsb : ∀ i ∈ F5, i ∈ G t ∨ W.heap.size ≤ i := fun i hi => (hsub5 i hi).imp id (fun h => Nat.le_trans (Fr.size (S := []) (by (repeat (first | with_reducible exact Fr.refl _ _ | assumption | with_reducible refine Fr.drew ?_ | with_reducible refine Fr.alloc ?_ _ | with_reducible refine Fr.setCell ?_ (.inr (by first | exact Nat.le_refl _ | (simp; done) | (simp; omega))) _)))) h); have HSB := Lib.hid hsb; have HSU := Lib.hid hsub5; clear hL5 hsb hsub5; have hX : Fr ST W w4 := Fr.trans (by (repeat (first | with_reducible exact Fr.refl _ _ | assumption | with_reducible refine Fr.drew ?_ | with_reducible refine Fr.alloc ?_ _ | with_reducible refine Fr.setCell ?_ (.inr (by first | exact Nat.le_refl _ | (simp; done) | (simp; omega))) _))) hF4; have HXS : Hid (W.heap.size ≤ w4.heap.size) := hX.size; (first | (have z : w4.heap[W.heap.size]? = some (.cells #[.string ⟨#[]⟩, .string ⟨#[]⟩] 102 (0, 0)) := hF4.obj (heap_alloc W _) (fun hm => by have := HG.out.1.o.lt _ (HS.out _ hm).1; omega); have z0 : w4.cell? ⟨W.heap.size, 0, none⟩ = some (.string ⟨#[]⟩) := cell_of z 0; have z1 : w4.cell? ⟨W.heap.size, 1, none⟩ = some (.string ⟨#[]⟩) := cell_of z 1; have zf := frozen_of z; have z2 : (w4.setCell ⟨W.heap.size, 0, none⟩ (.string e0.s)).cell? ⟨W.heap.size, 1, none⟩ = some (.string ⟨#[]⟩) := (sc_other _ _ (by simp)).trans z1; have z3 : (w4.setCell ⟨W.heap.size, 0, none⟩ (.string e0.s)).cell? ⟨W.heap.size, 0, none⟩ = some (.string e0.s) := sc_same _ z0; have z4 : ((w4.setCell ⟨W.heap.size, 0, none⟩ (.string e0.s)).setCell ⟨W.heap.size, 1, none⟩ (.string e0.t)).cell? ⟨W.heap.size, 0, none⟩ = some (.string e0.s) := (sc_other _ _ (by simp)).trans z3; have z5 : ((w4.setCell ⟨W.heap.size, 0, none⟩ (.string e0.s)).setCell ⟨W.heap.size, 1, none⟩ (.string e0.t)).cell? ⟨W.heap.size, 1, none⟩ = some (.string e0.t) := sc_same _ z2; clear z; have HQF : Hid (W.heap.size ∉ F5) := fun hm => by (rcases HSU.out _ hm with h | h; exact absurd (HLW.out.lt _ h) (by omega); exact absurd h (by simp))) | skip)))
    all_goals
      rename_i hh
      obtain ⟨q0, q1, q2, q3, q4⟩ := hh
      obtain ⟨W5, hW5⟩ : ∃ W5, W5 = worldOf q4 := ⟨_, rfl⟩
      dsimp only [worldOf] at hW5
      rw [← hW5] at q0 q1 q2 q3 q4 ⊢
      have hL5 : LruA W5 l most (touchE L k) F5 := by
        rw [hW5]
        first
          | exact HL5.out.fr ((Fr.refl [] w4).alloc _) (by simp)
          | exact HL5.out.fr ((Fr.refl [W.heap.size] w4).setCell1 0 _ |>.setCell1 1 _) (fun i hi hm => HQF.out (by rw [List.mem_singleton] at hm; rwa [hm] at hi))
      first
        | (have e50 : W5.cell? ⟨w4.heap.size, 0, none⟩ = some (.string e0.s) := (by (rw [hW5]; exact cell_of (heap_alloc w4 (.cells #[.string e0.s, .string e0.t] 102)) 0)); have e51 : W5.cell? ⟨w4.heap.size, 1, none⟩ = some (.string e0.t) := (by (rw [hW5]; exact cell_of (heap_alloc w4 (.cells #[.string e0.s, .string e0.t] 102)) 1)); have e5n : w.heap.size + 1 + 1 ≠ w4.heap.size := (by (have := HXS.out; omega)))
        | (have e50 : W5.cell? ⟨W.heap.size, 0, none⟩ = some (.string e0.s) := (by (rw [hW5]; exact z4)); have e51 : W5.cell? ⟨W.heap.size, 1, none⟩ = some (.string e0.t) := (by (rw [hW5]; exact z5)); have e5n : w.heap.size + 1 + 1 ≠ W.heap.size := (by omega))
      clear hW5
      rw [HST.out] at q4
      have hG5 : Hid (GW W5 w.heap.size c mm mc most f n g nc (fun u => if u = t then some (touchE L k) else M u) C (fun u => if u = t then F5 else G u) (F5 ++ F) t x y) := HG.out.1.touch HT.out.1 q4 hL5 HTL.out HSB.out hs0
      have hF5 : Hid (Fr F w W5) := fr_then (HG.out.2.mono (by simp)) q4 (fun i hi => .inl (H.out.gF t HT.out.2 i hi))
      have hN5 : Hid (∀ i ∈ F5 ++ F, i ∈ F ∨ w.heap.size ≤ i) := fun i hi => by
        rcases List.mem_append.1 hi with h1 | h1
        · rcases HSB.out i h1 with h2 | h2
          · exact .inl (H.out.gF t HT.out.2 i h2)
          · exact .inr (by omega)
        · exact .inl h1
      have mf := frozen_of hG5.out.b2
      clear q0 q1 q2 q3 q4 g0 g1 g2 g3 hL5
      have m1 : W5.cell? ⟨w.heap.size + 1 + 1, 1, none⟩ = some (.int .i64 y) := cell_of hG5.out.b2 1
      obtain ⟨W6, hW6⟩ : ∃ W6, W5.setCell ⟨w.heap.size + 1 + 1, 1, none⟩ (.int .i64 (wrap64 (y + 1))) = W6 := ⟨_, rfl⟩
      have hg6 := hG5.out.box 1 x (wrap64 (y + 1)) (.int .i64 (wrap64 (y + 1))) rfl
      rw [hW6] at hg6
      have hG6 := Lib.hid hg6
      have HF6 : Hid (Fr F w W6) := fr_then hF5.out hg6.2 (by simp; omega)
      have HL6 : Hid (LruA W6 l most (touchE L k) F5) := by
        obtain ⟨l', L', e1, e2, e3, e4⟩ := hg6.1.o.yes t _ HT.out.1
        rw [if_pos rfl] at e2 e3
        cases e1; cases e2
        exact e3
      have HSF : Hid (∀ i ∈ F5, i ∈ F5 ++ F ∧ i ≠ c ∧ i ≠ mm) := fun i hi => by
        have := hg6.1.o.own t HT.out.2 i (by rw [if_pos rfl]; exact hi)
        exact ⟨List.mem_append_left _ hi, this.1, this.2.1⟩
      have hz6 : W5.heap.size ≤ W6.heap.size := hg6.2.size
      have hs6 : w.heap.size + 1 + 1 < W6.heap.size := lt_of_obj hg6.1.b2
      obtain ⟨q0, q1, q2, q3, _⟩ := hg6.1.S HV.out HSF.out (Fr.refl _ W6)
      clear hg6
      go_wp2
      try rw [hW6]
      clear hW6
      go_region_held3 (fun w' => w'.cell? ⟨w.heap.size, 0, none⟩ = some (pp c) ∧ w'.cell? ⟨c, 1, none⟩ = some (.map (some mm)) ∧ w'.cell? ⟨w.heap.size + 1, 0, none⟩ = some (.string t) ∧ (Instr.lookup 97 (.map (some mm)) (.string t) false).run Try.prog w' = .ok (pp l) w' ∧ Fr F5 W6 w') (exact hG6.out.1.S HV.out HSF.out (by (repeat (first | with_reducible exact Fr.refl _ _ | assumption | with_reducible refine Fr.drew ?_ | with_reducible refine Fr.alloc ?_ _ | with_reducible refine Fr.setCell ?_ (.inr (by first | exact Nat.le_refl _ | (simp; done) | (simp; omega))) _)))) (first | (go_at_call 53; refine (HAD.out _ _ (HL6.out.fr (S := []) (by (repeat (first | with_reducible exact Fr.refl _ _ | assumption | with_reducible refine Fr.drew ?_ | with_reducible refine Fr.alloc ?_ _ | with_reducible refine Fr.setCell ?_ (.inr (by first | exact Nat.le_refl _ | (simp; done) | (simp; omega))) _))) (by simp))).mono ?_; rintro e w6 ⟨rfl, ⟨F7, hL7, hs7⟩, hF7⟩; have hX7 : Fr F5 W6 w6 := Fr.trans (by (repeat (first | with_reducible exact Fr.refl _ _ | assumption | with_reducible refine Fr.drew ?_ | with_reducible refine Fr.alloc ?_ _ | with_reducible refine Fr.setCell ?_ (.inr (by first | exact Nat.le_refl _ | (simp; done) | (simp; omega))) _))) hF7; have hsb7 : ∀ i ∈ F7, i ∈ F5 ∨ W6.heap.size ≤ i := fun i hi => (hs7 i hi).imp id (fun h => Nat.le_trans (Fr.size (S := []) (by (repeat (first | with_reducible exact Fr.refl _ _ | assumption | with_reducible refine Fr.drew ?_ | with_reducible refine Fr.alloc ?_ _ | with_reducible refine Fr.setCell ?_ (.inr (by first | exact Nat.le_refl _ | (simp; done) | (simp; omega))) _)))) h); have HL7 := Lib.hid hL7; have HS7 := Lib.hid hsb7; clear hL7 hs7 hsb7) | (go_at_call 54; refine (HLN.out _ _ HL7.out).mono ?_; rintro e w7 ⟨rfl, rfl⟩))
      all_goals
        rename_i hh
        obtain ⟨q0, q1, q2, q3, q4⟩ := hh
        obtain ⟨W8, hW8⟩ : ∃ W8, W8 = worldOf q4 := ⟨_, rfl⟩
        dsimp only [worldOf] at hW8
        have hL8 : LruA W8 l most (delE (touchE L k) k) F7 := by rw [hW8]; exact HL7.out.fr (S := []) (by (repeat (first | with_reducible exact Fr.refl _ _ | assumption | with_reducible refine Fr.drew ?_ | with_reducible refine Fr.alloc ?_ _ | with_reducible refine Fr.setCell ?_ (.inr (by first | exact Nat.le_refl _ | (simp; done) | (simp; omega))) _))) (by simp)
        rw [← hW8] at q0 q1 q2 q3 q4 ⊢
        clear hW8
        have hG8 : Hid (GW W8 w.heap.size c mm mc most f n g nc (fun u => if u = t then some (delE (touchE L k) k) else (if u = t then some (touchE L k) else M u)) C (fun u => if u = t then F7 else (if u = t then F5 else G u)) (F7 ++ (F5 ++ F)) t x (wrap64 (y + 1))) := hG6.out.1.touch HT.out.1 (by rw [if_pos rfl]; exact q4) hL8 (by have := delE_len (touchE L k) k; have := HTL.out; omega) (by rw [if_pos rfl]; exact HS7.out) hs6
        have hF8 : Hid (Fr F w W8) := fr_then HF6.out q4 (fun i hi => hN5.out i (List.mem_append_left _ hi))
        have hN8 : Hid (∀ i ∈ F7 ++ (F5 ++ F), i ∈ F ∨ w.heap.size ≤ i) := fun i hi => by
          rcases List.mem_append.1 hi with h1 | h1
          · rcases HS7.out i h1 with h2 | h2
            · exact hN5.out i (List.mem_append_left _ h2)
            · exact .inr (by omega)
          · exact hN5.out i h1
        clear hL8 q3 q4
        go_wp2
        refine leaves_cons (f := 51) (args := #[pp (w.heap.size + 1 + 1), pp w.heap.size, pp (w.heap.size + 1)]) (by simp) (by simp [go_sem]) ?_
        refine (clos_d hG8.out.o (w.heap.size + 1 + 1) w.heap.size (w.heap.size + 1) t x (wrap64 (y + 1)) .returning (cell_of hG8.out.b2 0) (cell_of hG8.out.b2 1) (cell_of hG8.out.b0 0) (cell_of hG8.out.b1 0)).mono ?_
        rintro e u' w9 ⟨rfl, rfl, hP⟩
        obtain ⟨⟨g', nc', hO⟩, hFc⟩ := hP
        refine ⟨_, by simp [results, Try.results21, go_sem], rfl, ⟨_, _, g', nc', _, _, hO, hN8.out⟩, ?_⟩
        exact fr_then hF8.out hFc (fun i hi => .inl (by rw [List.mem_singleton.1 hi]; exact H.out.nF))
end
end Go.Proofs.Ytoichcjlfpijeaa
