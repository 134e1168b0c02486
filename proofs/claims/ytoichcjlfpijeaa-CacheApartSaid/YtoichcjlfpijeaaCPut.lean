/- The list by keys: Put. -/
import Derived.Test.YtoichcjlfpijeaaCNew
namespace Go.Proofs.Ytoichcjlfpijeaa
open Go.RowKit Go.Bl

def delE (L : List Ent1) (k : ByteArray) : List Ent1 := L.filter fun e => decide (e.k ≠ k)
def hasE (L : List Ent1) (k : ByteArray) : Bool := L.any fun e => decide (e.k = k)
def putE (L : List Ent1) (e : Ent1) (most : Int) : List Ent1 := if ((e :: delE L e.k).length : Int) ≤ most then e :: delE L e.k else (e :: delE L e.k).dropLast

theorem delE_none {L : List Ent1} {k : ByteArray} (h : ∀ e ∈ L, e.k ≠ k) : delE L k = L := by
  unfold delE; rw [List.filter_eq_self]; intro e he; simpa using h e he
theorem delE_mid {ls rs : List Ent1} {x : Ent1} (hn : ((ls ++ x :: rs).map (·.k)).Nodup) : delE (ls ++ x :: rs) x.k = ls ++ rs := by
  rw [List.map_append, List.map_cons, List.nodup_append, List.nodup_cons] at hn
  unfold delE
  rw [List.filter_append, List.filter_cons]
  have h1 : ls.filter (fun e => decide (e.k ≠ x.k)) = ls := by
    rw [List.filter_eq_self]; intro e he
    have := hn.2.2 e.k (List.mem_map.2 ⟨e, he, rfl⟩) x.k (by simp)
    simpa using this
  have h2 : rs.filter (fun e => decide (e.k ≠ x.k)) = rs := by
    rw [List.filter_eq_self]; intro e he
    have : e.k ≠ x.k := fun h => hn.2.1.1 (by rw [← h]; exact List.mem_map.2 ⟨e, he, rfl⟩)
    simpa using this
  rw [h1, h2]; simp

theorem del_any {w : World} {l m : Nat} {most : Int} {N : List (Nat × Ent1)} (h : LruO w l m most N) (k : ByteArray) :
    Calls Try.prog 53 #[pp l, .string k] w fun e w' => e = .returned (.bool (hasE (N.map (·.2)) k)) ∧ ∃ N', LruO w' l m most N' ∧ N'.map (·.2) = delE (N.map (·.2)) k ∧ (∀ x ∈ N', x ∈ N) ∧ pf N' k = none ∧ Fr (m :: l :: N.map (·.1)) w w' ∧ w'.heap.size = w.heap.size := by
  cases hp : pf N k with
  | none =>
    have hk := pf_none.1 hp
    refine (del_none h k hp).mono ?_
    rintro e w' ⟨rfl, rfl⟩
    refine ⟨?_, N, h, (delE_none (fun e he => by obtain ⟨y, hy, rfl⟩ := List.mem_map.1 he; exact hk y hy)).symm, fun _ hx => hx, hp, Fr.refl _ _, rfl⟩
    have : hasE (N.map (·.2)) k = false := by
      unfold hasE
      rw [List.any_eq_false]
      intro e he
      obtain ⟨y, hy, rfl⟩ := List.mem_map.1 he
      simpa using hk y hy
    rw [this]
  | some v =>
    obtain ⟨ls, x, rs, rfl, hk, rfl⟩ := pf_some hp
    refine (del_some h k hk).mono ?_
    rintro e w' ⟨rfl, hL, hF, _, hz⟩
    have hkk : (((ls.map (·.2)) ++ x.2 :: (rs.map (·.2))).map (·.k)).Nodup := by have := h.keys; simpa [Function.comp_def] using this
    refine ⟨?_, ls ++ rs, hL, ?_, fun y hy => ?_, ?_, hF, hz⟩
    · have : hasE ((ls ++ x :: rs).map (·.2)) k = true := by unfold hasE; simp [hk]
      rw [this]
    · rw [List.map_append, List.map_append, List.map_cons, ← hk, delE_mid hkk]
    · rcases List.mem_append.1 hy with h3 | h3
      · exact List.mem_append_left _ h3
      · exact List.mem_append_right _ (List.mem_cons_of_mem _ h3)
    · have := congrFun (pf_del h.keys) k
      rw [← this, if_pos hk.symm]

theorem LruO.last {w : World} {l m : Nat} {most : Int} {ls : List (Nat × Ent1)} {x : Nat × Ent1} (h : LruO w l m most (ls ++ [x])) : w.cell? ⟨l, 5, none⟩ = some (pp x.1) := by
  have := h.ring.ring
  rw [List.map_append, List.map_cons, List.map_nil, Seg.app] at this
  exact this.2.2

set_option maxRecDepth 100000 in
set_option maxHeartbeats 2000000 in
theorem put_any {w : World} {l m : Nat} {most : Int} {N : List (Nat × Ent1)} (h : LruO w l m most N) (k s t : ByteArray) (hm0 : 1 ≤ most) (hm1 : most ≤ 64) (hlen : (N.length : Int) ≤ most) :
    Calls Try.prog 56 #[pp l, .string k, .agg #[.string s, .string t]] w fun e w' => (∃ g ok, e = .returned (.tuple #[.string g, .bool ok])) ∧ ∃ N2, LruO w' l m most N2 ∧ N2.map (·.2) = putE (N.map (·.2)) ⟨k, s, t⟩ most ∧
      (∀ x ∈ N2, x.1 ∈ N.map (·.1) ∨ w.heap.size ≤ x.1) ∧ Fr (m :: l :: N.map (·.1)) w w' := by
  have h1 := h.fr ((Fr.refl [] w).alloc (.cells #[.string s, .string t] 102)) (by simp) (by simp) (by simp)
  have HX : Hid ((w.alloc (.cells #[.string s, .string t] 102)).heap[w.heap.size]? = some (.cells #[.string s, .string t] 102 (0, 0))) := heap_alloc w _
  have HL := Lib.hid h.lt
  have HD := Lib.hid (del_any h1 k)
  clear h h1
  go_enter Try.func56, Try.ntmps56
  go_wp2_with fail
  refine HD.out.mono ?_
  rintro e w1 ⟨rfl, N', hL, hE, hsub, hpk, hF, hz⟩
  have hz1 : w.heap.size < w1.heap.size := by rw [hz]; simp
  have hnew : w.heap.size ∉ m :: l :: N.map (·.1) := fun hm => by have := HL.out _ hm; omega
  have hx1 := hF.obj HX.out hnew
  have x0 : w1.cell? ⟨w.heap.size, 0, none⟩ = some (.string s) := cell_of hx1 0
  have x1 : w1.cell? ⟨w.heap.size, 1, none⟩ = some (.string t) := cell_of hx1 1
  have H1 := Lib.hid hL
  have HE := Lib.hid hE
  have HSub := Lib.hid hsub
  have HPK := Lib.hid hpk
  have HF := Lib.hid hF
  have hlt2 := hL.lt
  have hW : Hid (LruO (w1.alloc (.cells #[.string k, .string s, .string t, .pointer none, .pointer none] 137)) l m most N') := hL.fr ((Fr.refl [] w1).alloc _) (by simp) (by simp) (by simp)
  have hp : (w1.alloc (.cells #[.string k, .string s, .string t, .pointer none, .pointer none] 137)).heap[w1.heap.size]? = some (.cells #[.string k, .string s, .string t, .pointer none, .pointer none] 137 (0, 0)) := heap_alloc w1 _
  have c1 : (w1.alloc (.cells #[.string k, .string s, .string t, .pointer none, .pointer none] 137)).cell? ⟨l, 1, none⟩ = some (.map (some m)) := hW.out.c1
  obtain ⟨w2, hst, hM, hF2, hz2⟩ := hW.out.map.store Try.underlying135 Try.underlying9 k (pp w1.heap.size)
  have HS := Lib.hid hst
  have hap := hW.out.apart
  have hpm : w1.heap.size ≠ m := fun e => by have := hlt2 m (by simp); omega
  have hNode : NodeO w2 (w1.heap.size, ⟨k, s, t⟩) := by
    have hp2 := hF2.obj hp (by simpa using hpm)
    exact ⟨cell_of hp2 0, cell_of hp2 1, cell_of hp2 2, by have := cell_of hp2 3; rw [this]; rfl, by have := cell_of hp2 4; rw [this]; rfl, frozen_of hp2⟩
  have hml : ∀ x ∈ N', x.1 ≠ m := fun x hx e => hap.2 (List.mem_map.2 ⟨x, hx, e⟩)
  have hR2 : RingO w2 l N' := hW.out.ring.fr hF2 (by simpa using Ne.symm hap.1) (fun x hx => by simpa using hml x hx)
  have hnod : (l :: w1.heap.size :: N'.map (·.1)).Nodup := by
    have := hW.out.ring.nod
    rw [List.nodup_cons] at this
    rw [List.nodup_cons, List.nodup_cons]
    refine ⟨?_, ?_, this.2⟩
    · simp only [List.mem_cons, not_or]
      exact ⟨fun e => by have := hlt2 l (by simp); omega, this.1⟩
    · intro hm; have := hlt2 w1.heap.size (by simp [hm]); omega
  have HR := Lib.hid (first_ring hR2 hNode hnod)
  have HM := Lib.hid hM
  have HF2 := Lib.hid hF2
  have q1 := cell_fr hF2 c1 (by simpa using Ne.symm hap.1)
  have q0 := cell_fr hF2 hW.out.c0 (by simpa using Ne.symm hap.1)
  have HN := Lib.hid (And.intro hnod hap)
  have hml2 := Lib.hid hml
  clear hL hE hsub hpk hF hz hx1 hlt2 hp hst hM hF2 hNode hR2 hnod hap hml
  go_wp2_with (at_mapUpdate; refine wpList_mapUpdate rfl _ _ _ _ rfl _ _ _ rfl rfl rfl HS.out ?_)
  refine HR.out.mono ?_
  rintro e w3 ⟨rfl, hR3, hL3, hF3⟩
  have d0 := hL3.cell _ _ _ (by omega) q0
  have d1 := hL3.cell _ _ _ (by omega) q1
  have hm3 : m ∉ l :: w1.heap.size :: N'.map (·.1) := by
    simp only [List.mem_cons, not_or]
    exact ⟨HN.out.2.1, Ne.symm hpm, HN.out.2.2⟩
  have hM3 := HM.out.fr hF3 hm3
  have hlen2 : (N'.length : Int) ≤ most := by
    have e1 : (delE (N.map (·.2)) k).length ≤ (N.map (·.2)).length := List.length_filter_le _ _
    rw [← HE.out] at e1
    simp only [List.length_map] at e1
    omega
  have hN3 : LruO w3 l m most ((w1.heap.size, ⟨k, s, t⟩) :: N') := by
    refine ⟨d0, d1, hR3, ?_, ?_⟩
    · rw [List.map_cons, List.nodup_cons]
      refine ⟨fun hm => ?_, H1.out.keys⟩
      obtain ⟨y, hy, e⟩ := List.mem_map.1 hm
      exact pf_none.1 HPK.out y hy e
    · have e1 : pf ((w1.heap.size, (⟨k, s, t⟩ : Ent1)) :: N') = fun x => if x = k then some (pp w1.heap.size) else pf N' x := by funext x; rw [pf_cons]
      have e2 : bump (pf N' k) N'.length = ((w1.heap.size, (⟨k, s, t⟩ : Ent1)) :: N').length := by rw [HPK.out]; simp [bump]
      rw [e1, ← e2]; exact hM3
  have H3 := Lib.hid hN3
  have hlen3 : ∀ t', (Builtin.len_ #[135] t' #[.map (some m)]).run Try.prog w3 = .ok (.int .i64 ((w1.heap.size, (⟨k, s, t⟩ : Ent1)) :: N').length) w3 := fun t' => hN3.map.len Try.underlying135
  simp only [List.length_cons] at hlen3
  have HLn := Lib.hid hlen3
  clear hlen3 hN3 hM3 hR3 hL3 q0 q1
  have hl3 := HLn.out 3
  have HF3 := Lib.hid hF3
  have hS : Hid (Fr (m :: l :: N.map (·.1)) w w3) := by
    refine fr_then (fr_then (fr_then ((Fr.refl _ w).alloc _) HF.out (fun i hi => .inl hi)) (((Fr.refl [m] w1).alloc _).trans HF2.out) (by simp)) HF3.out (fun i hi => ?_)
    simp only [List.mem_cons] at hi
    rcases hi with rfl | rfl | hi
    · exact .inl (by simp)
    · exact .inr (by omega)
    · obtain ⟨x, hx, rfl⟩ := List.mem_map.1 hi
      exact .inl (by simp only [List.mem_cons]; exact .inr (.inr (List.mem_map.2 ⟨x, HSub.out x hx, rfl⟩)))
  have hmem : Hid (∀ x ∈ (w1.heap.size, (⟨k, s, t⟩ : Ent1)) :: N', x.1 ∈ N.map (·.1) ∨ w.heap.size ≤ x.1) := by
    intro x hx
    rcases List.mem_cons.1 hx with rfl | hx
    · exact .inr (by dsimp only; omega)
    · exact .inl (List.mem_map.2 ⟨x, HSub.out x hx, rfl⟩)
  have hsnd0 : ((w1.heap.size, (⟨k, s, t⟩ : Ent1)) :: N').map (·.2) = ⟨k, s, t⟩ :: delE (N.map (·.2)) k := by rw [List.map_cons, HE.out]
  have hsnd := Lib.hid hsnd0
  clear hsnd0
  obtain ⟨N3, hN3⟩ : ∃ N3, (w1.heap.size, (⟨k, s, t⟩ : Ent1)) :: N' = N3 := ⟨_, rfl⟩
  have hl3n : N3.length = N'.length + 1 := by rw [← hN3]; rfl
  have HL3 := Lib.hid hl3n
  rw [hN3] at H3 hmem hsnd
  clear hN3 hl3n hF3 hm3 hl3
  have hl4 : ∀ j, (Builtin.len_ #[135] 3 #[.map (some m)]).run Try.prog (w3.drewN j) = .ok (.int .i64 ((N'.length : Int) + 1)) (w3.drewN j) := fun j => by
    have h := (H3.out.fr ((Fr.refl [] w3).drewN j) (by simp) (by simp) (by simp)).map.len (t' := 3) Try.underlying135
    rw [HL3.out] at h
    simpa using h
  go_wp2_with fail
  go_quiet (fail)
  by_cases hle : (N'.length : Int) + 1 ≤ most
  · go_wp2_with fail
    go_ret2
    refine ⟨⟨_, _, rfl⟩, N3, H3.out.fr ((Fr.refl [] w3).drewN nq) (by simp) (by simp) (by simp), ?_, hmem.out, hS.out.drewN nq⟩
    have hll : ((⟨k, s, t⟩ : Ent1) :: delE (N.map (·.2)) k).length = N'.length + 1 := by rw [← hsnd.out, List.length_map, HL3.out]
    unfold putE
    rw [if_pos (by rw [hll]; omega), hsnd.out]
  · have hgt : decide ((N'.length : Int) + 1 ≤ most) = false := by simpa using hle
    obtain ⟨ls, y, rfl⟩ : ∃ ls y, N3 = ls ++ [y] := by
      rcases List.eq_nil_or_concat N3 with rfl | ⟨ls, y, e⟩
      · have := HL3.out; simp at this
      · exact ⟨ls, y, by simpa using e⟩
    have hQ := H3.out.fr ((Fr.refl [] w3).drewN nq) (by simp) (by simp) (by simp)
    have g5 := hQ.last
    have gk := (hQ.ring.dat y (by simp)).k
    have HQ := Lib.hid (del_any hQ y.2.k)
    have HK := Lib.hid hQ.keys
    clear hQ
    go_wp2_with fail
    refine HQ.out.mono ?_
    rintro e w4 ⟨rfl, N4, hL4, hE4, hs4, _, hF4, _⟩
    have HP : Hid (LruO w4 l m most N4 ∧ N4.map (·.2) = putE (N.map (·.2)) ⟨k, s, t⟩ most ∧ (∀ x ∈ N4, x.1 ∈ N.map (·.1) ∨ w.heap.size ≤ x.1) ∧ Fr (m :: l :: N.map (·.1)) w w4) := by
      refine ⟨hL4, ?_, fun x hx => hmem.out x (hs4 x hx), fr_then (hS.out.drewN nq) hF4 (fun i hi => ?_)⟩
      · have hll : ((⟨k, s, t⟩ : Ent1) :: delE (N.map (·.2)) k).length = N'.length + 1 := by rw [← hsnd.out, List.length_map, HL3.out]
        unfold putE
        rw [if_neg (by rw [hll]; omega), ← hsnd.out, hE4]
        have hkk : (((ls.map (·.2)) ++ y.2 :: []).map (·.k)).Nodup := by have := HK.out; simpa [Function.comp_def] using this
        have e1 := delE_mid hkk
        rw [List.map_append, List.map_cons, List.map_nil, e1]
        simp
      · rcases List.mem_cons.1 hi with rfl | hi
        · exact .inl (by simp)
        rcases List.mem_cons.1 hi with rfl | hi
        · exact .inl (by simp)
        obtain ⟨x, hx, rfl⟩ := List.mem_map.1 hi
        exact (hmem.out x hx).imp (fun h => by simp only [List.mem_cons]; exact .inr (.inr h)) id
    clear hL4 hE4 hs4 hF4
    go_wp2_with fail
    go_ret2
    exact ⟨⟨_, _, rfl⟩, N4, HP.out⟩
end Go.Proofs.Ytoichcjlfpijeaa
