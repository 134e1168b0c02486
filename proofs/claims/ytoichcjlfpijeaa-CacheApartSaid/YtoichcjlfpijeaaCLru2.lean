/- The list by keys: Del. -/
import Derived.Test.YtoichcjlfpijeaaCLru
import Derived.Maps.OwnSet
import Derived.Maps.OwnOps
namespace Go.Proofs.Ytoichcjlfpijeaa
open Go.RowKit Go.Bl

abbrev pp (k : Nat) : Value := .pointer (some ⟨k, 0, none⟩)
def pf (N : List (Nat × Ent1)) (s : ByteArray) : Option Value := (N.find? fun x => decide (x.2.k = s)).map fun x => pp x.1
structure LruO (w : World) (l m : Nat) (most : Int) (N : List (Nat × Ent1)) : Prop where
  c0 : w.cell? ⟨l, 0, none⟩ = some (.int .i64 most)
  c1 : w.cell? ⟨l, 1, none⟩ = some (.map (some m))
  ring : RingO w l N
  keys : (N.map (·.2.k)).Nodup
  map : MapAt w m (pf N) N.length

theorem pf_none {N : List (Nat × Ent1)} {s : ByteArray} : pf N s = none ↔ ∀ x ∈ N, x.2.k ≠ s := by
  unfold pf; simp
theorem pf_some {N : List (Nat × Ent1)} {s : ByteArray} {v : Value} (h : pf N s = some v) : ∃ ls x rs, N = ls ++ x :: rs ∧ x.2.k = s ∧ v = pp x.1 := by
  unfold pf at h
  cases hf : N.find? fun x => decide (x.2.k = s) with
  | none => rw [hf] at h; cases h
  | some x =>
    rw [hf] at h
    have h1 := List.find?_some hf
    obtain ⟨ls, rs, e⟩ := List.append_of_mem (List.mem_of_find?_eq_some hf)
    simp only [Option.map_some, Option.some.injEq] at h
    exact ⟨ls, x, rs, e, by simpa using h1, h.symm⟩
theorem pf_cons (x : Nat × Ent1) (N : List (Nat × Ent1)) (s : ByteArray) : pf (x :: N) s = if s = x.2.k then some (pp x.1) else pf N s := by
  unfold pf
  by_cases h : x.2.k = s
  · simp [h]
  · simp [h, Ne.symm h]
theorem pf_app (ls rs : List (Nat × Ent1)) (s : ByteArray) : pf (ls ++ rs) s = (pf ls s).or (pf rs s) := by
  unfold pf
  rw [List.find?_append]
  cases ls.find? fun x => decide (x.2.k = s) <;> simp
theorem pf_at {ls rs : List (Nat × Ent1)} {x : Nat × Ent1} (hn : ((ls ++ x :: rs).map (·.2.k)).Nodup) : pf (ls ++ x :: rs) x.2.k = some (pp x.1) := by
  rw [List.map_append, List.map_cons, List.nodup_append] at hn
  rw [pf_app, pf_none.2 (fun y hy e => hn.2.2 y.2.k (List.mem_map.2 ⟨y, hy, rfl⟩) x.2.k (by simp) e), pf_cons]
  simp
theorem pf_del {ls rs : List (Nat × Ent1)} {x : Nat × Ent1} (hn : ((ls ++ x :: rs).map (·.2.k)).Nodup) : (fun s => if s = x.2.k then none else pf (ls ++ x :: rs) s) = pf (ls ++ rs) := by
  funext s
  rw [List.map_append, List.map_cons, List.nodup_append, List.nodup_cons] at hn
  rw [pf_app, pf_app, pf_cons]
  by_cases h : s = x.2.k
  · subst h
    rw [if_pos rfl, pf_none.2 (fun y hy e => hn.2.2 y.2.k (List.mem_map.2 ⟨y, hy, rfl⟩) x.2.k (by simp) e), pf_none.2 (fun y hy e => hn.2.1.1 (List.mem_map.2 ⟨y, hy, e⟩))]
    rfl
  · rw [if_neg h, if_neg h]

theorem NodeO.fr {w w' : World} {x : Nat × Ent1} {S : List Nat} (h : NodeO w x) (hF : Fr S w w') (hS : x.1 ∉ S) : NodeO w' x := by
  have hl : x.1 < w.heap.size := World.block_lt_of_cell? _ _ h.k
  have hb := hF.block x.1 hl hS
  have e : ∀ o, w'.cell? ⟨x.1, o, none⟩ = w.cell? ⟨x.1, o, none⟩ := fun o => World.cell?_of_block hb
  exact ⟨(e _).trans h.k, (e _).trans h.s, (e _).trans h.t, by rw [e]; exact h.a, by rw [e]; exact h.n, fun o => (World.frozen?_of_block hb).trans (h.f o)⟩
theorem RingO.fr {w w' : World} {l : Nat} {N : List (Nat × Ent1)} {S : List Nat} (h : RingO w l N) (hF : Fr S w w') (hl : l ∉ S) (hN : ∀ x ∈ N, x.1 ∉ S) : RingO w' l N := by
  have key : ∀ u, u = rt l ∨ (∃ p ∈ N.map (·.1), u = nd p) → u.block ∉ S := by
    rintro u (rfl | ⟨p, hp, rfl⟩)
    · exact hl
    · obtain ⟨x, hx, rfl⟩ := List.mem_map.1 hp
      exact hN x hx
  have hll : l < w.heap.size := by
    have := h.ring.head.1
    exact World.block_lt_of_cell? _ _ this
  exact ⟨fun o => (World.frozen?_of_block (hF.block l hll hl)).trans (h.fl o), h.ring.mono (fun u hu v hv => cell_fr hF hv (key u hu)) (fun u hu v hv => cell_fr hF hv (key u hu)), fun x hx => (h.dat x hx).fr hF (hN x hx), h.nod⟩
theorem LruO.fr {w w' : World} {l m : Nat} {most : Int} {N : List (Nat × Ent1)} {S : List Nat} (h : LruO w l m most N) (hF : Fr S w w') (hl : l ∉ S) (hm : m ∉ S) (hN : ∀ x ∈ N, x.1 ∉ S) : LruO w' l m most N :=
  ⟨cell_fr hF h.c0 hl, cell_fr hF h.c1 hl, h.ring.fr hF hl hN, h.keys, h.map.fr hF hm⟩
theorem map_ne_cell {w : World} {m : Nat} {f : ByteArray → Option Value} {n : Nat} (h : MapAt w m f n) {a : Addr} {v : Value} (hc : w.cell? a = some v) : m ≠ a.block := by
  rintro rfl
  obtain ⟨es, clk, hm, _⟩ := h.ex
  simp [World.cell?, hm] at hc
theorem LruO.apart {w : World} {l m : Nat} {most : Int} {N : List (Nat × Ent1)} (h : LruO w l m most N) : m ≠ l ∧ m ∉ N.map (·.1) :=
  ⟨map_ne_cell h.map h.c0, fun hm => by
    obtain ⟨x, hx, e⟩ := List.mem_map.1 hm
    exact map_ne_cell h.map (h.ring.dat x hx).k e.symm⟩
theorem LruO.lt {w : World} {l m : Nat} {most : Int} {N : List (Nat × Ent1)} (h : LruO w l m most N) : ∀ i ∈ m :: l :: N.map (·.1), i < w.heap.size := by
  intro i hi
  simp only [List.mem_cons] at hi
  rcases hi with rfl | rfl | hi
  · exact h.map.lt
  · exact World.block_lt_of_cell? _ _ h.c0
  · obtain ⟨x, hx, rfl⟩ := List.mem_map.1 hi
    exact World.block_lt_of_cell? _ _ (h.ring.dat x hx).k

theorem zero134 (w : World) : (zeroValue 134).run Try.prog w = .ok (.pointer none) w := by kernel_rfl
theorem LruO.look {w : World} {l m : Nat} {most : Int} {N : List (Nat × Ent1)} (h : LruO w l m most N) (s : ByteArray) :
    (Instr.lookup 135 (.map (some m)) (.string s) false).run Try.prog w = .ok ((pf N s).getD (.pointer none)) w := h.map.lookup Try.underlying135 Try.underlying9 zero134 s false

theorem del_nil (s : ByteArray) (w : World) : Calls Try.prog 53 #[.pointer none, .string s] w fun e w' => e = .returned (.bool false) ∧ w = w' := by
  go_enter Try.func53, Try.ntmps53
  go_wp2
  go_ret
  exact ⟨rfl, rfl⟩

theorem del_none {w : World} {l m : Nat} {most : Int} {N : List (Nat × Ent1)} (h : LruO w l m most N) (s : ByteArray) (hs : pf N s = none) :
    Calls Try.prog 53 #[pp l, .string s] w fun e w' => e = .returned (.bool false) ∧ w = w' := by
  have hl := h.look s
  rw [hs] at hl
  have c1 := h.c1
  clear h hs
  go_enter Try.func53, Try.ntmps53
  go_wp2
  go_ret
  exact ⟨rfl, rfl⟩

set_option maxRecDepth 100000 in
theorem del_some {w : World} {l m : Nat} {most : Int} {ls rs : List (Nat × Ent1)} {x : Nat × Ent1} (h : LruO w l m most (ls ++ x :: rs)) (s : ByteArray) (hs : x.2.k = s) :
    Calls Try.prog 53 #[pp l, .string s] w fun e w' => e = .returned (.bool true) ∧ LruO w' l m most (ls ++ rs) ∧ Fr (m :: l :: (ls ++ x :: rs).map (·.1)) w w' ∧ NodeO w' x ∧ w'.heap.size = w.heap.size := by
  have hl := h.look s
  have hp := pf_at h.keys
  rw [hs] at hp
  rw [hp] at hl
  have c1 := h.c1
  have H := Lib.hid h
  have HS := Lib.hid hs
  have HO := Lib.hid (out_ring h.ring)
  clear h hs hp
  go_enter Try.func53, Try.ntmps53
  go_wp2_with fail
  refine HO.out.mono ?_
  rintro e w1 ⟨rfl, hR, hN, hL, hF⟩
  have d1 := hL.cell l 1 _ (by omega) c1
  have hap := H.out.apart
  have hM := H.out.map.fr hF (by simp only [List.mem_cons, not_or]; exact hap)
  obtain ⟨w2, hrun, hM2, hF2, hz⟩ := hM.drop Try.underlying135 Try.underlying9 s
  have HR := Lib.hid hrun
  have HZ := Lib.hid hz
  have HP : Hid (LruO w2 l m most (ls ++ rs) ∧ Fr (m :: l :: (ls ++ x :: rs).map (·.1)) w w2 ∧ NodeO w2 x ∧ w2.heap.size = w.heap.size) := by
    have hx1 : x.1 ≠ m := fun e => hap.2 (by rw [← e]; simp)
    refine ⟨⟨cell_fr hF2 (hL.cell l 0 _ (by omega) H.out.c0) (by simpa using Ne.symm hap.1), cell_fr hF2 d1 (by simpa using Ne.symm hap.1), hR.fr hF2 (by simpa using Ne.symm hap.1) (fun y hy => ?_), ?_, ?_⟩, ?_, hN.fr hF2 (by simpa using hx1), hz.trans hL.size⟩
    · simp only [List.mem_singleton]
      rintro e
      refine hap.2 (List.mem_map.2 ⟨y, ?_, e⟩)
      rcases List.mem_append.1 hy with h3 | h3
      · exact List.mem_append_left _ h3
      · exact List.mem_append_right _ (List.mem_cons_of_mem _ h3)
    · have := H.out.keys
      rw [List.map_append, List.map_cons] at this
      rw [List.map_append]
      exact this.sublist (List.Sublist.append (List.Sublist.refl _) (List.sublist_cons_self _ _))
    · have e1 := pf_del H.out.keys
      rw [HS.out] at e1
      rw [e1] at hM2
      have e2 : drp (pf (ls ++ x :: rs) s) (ls ++ x :: rs).length = (ls ++ rs).length := by
        have := pf_at H.out.keys
        rw [HS.out] at this
        rw [this]; simp [drp]
      rw [e2] at hM2
      exact hM2
    · exact (hF.mono (fun i hi => .inl (List.mem_cons_of_mem _ hi))).trans (hF2.mono (fun i hi => .inl (by simp only [List.mem_singleton] at hi; simp [hi])))
  clear hR hN hL hF hM hrun hM2 hF2 hz hl hap
  go_wp2_with (at_delete; refine wpList_delete rfl _ _ _ _ rfl _ _ _ rfl rfl (HR.out _ _) ?_)
  go_ret
  exact ⟨rfl, HP.out⟩
end Go.Proofs.Ytoichcjlfpijeaa
