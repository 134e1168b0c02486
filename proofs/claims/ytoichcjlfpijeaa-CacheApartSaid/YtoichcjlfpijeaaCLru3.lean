/- The list by keys: Get, Put, Len, New. -/
import Derived.Test.YtoichcjlfpijeaaCLru2
import Derived.Deep.RegionHeld3
namespace Go.Proofs.Ytoichcjlfpijeaa
open Go.RowKit Go.Bl

theorem fr_then {S T : List Nat} {a b c : World} (h : Fr S a b) (k : Fr T b c) (hT : ∀ i ∈ T, i ∈ S ∨ a.heap.size ≤ i) : Fr S a c :=
  ⟨k.os.trans h.os, k.tape.trans h.tape, k.output.trans h.output, Nat.le_trans h.size k.size, fun i hi hS =>
    (k.block i (Nat.lt_of_lt_of_le hi h.size) fun hm => by rcases hT i hm with h1 | h1; exact hS h1; omega).trans (h.block i hi hS)⟩

theorem len_nil (w : World) : Calls Try.prog 54 #[.pointer none] w fun e w' => e = .returned (.int .i64 0) ∧ w = w' := by
  go_enter Try.func54, Try.ntmps54
  go_wp2
  go_ret
  exact ⟨rfl, rfl⟩
theorem len_some {w : World} {l m : Nat} {most : Int} {N : List (Nat × Ent1)} (h : LruO w l m most N) : Calls Try.prog 54 #[pp l] w fun e w' => e = .returned (.int .i64 N.length) ∧ w = w' := by
  have hl : ∀ t', (Builtin.len_ #[135] t' #[.map (some m)]).run Try.prog w = .ok (.int .i64 N.length) w := fun t' => h.map.len Try.underlying135
  have HN := Lib.hid hl
  have c1 := h.c1
  clear h hl
  go_enter Try.func54, Try.ntmps54
  go_wp2_with (at_len; refine wpList_maplen rfl _ _ rfl _ _ rfl (HN.out _) ?_)
  go_ret
  exact ⟨rfl, rfl⟩

def eZ : Value := .agg #[.string ⟨#[]⟩, .string ⟨#[]⟩]
theorem get_nil (s : ByteArray) (w : World) : Calls Try.prog 52 #[.pointer none, .string s] w fun e w' => e = .returned (.tuple #[.agg #[.string ⟨#[]⟩, .string ⟨#[]⟩], .bool false]) ∧ Fr [] w w' := by
  go_enter Try.func52, Try.ntmps52
  go_wp2
  exact bodyPost_ret (v := .tuple #[.agg #[.string ⟨#[]⟩, .string ⟨#[]⟩], .bool false]) (by simp [results, Try.results52, go_sem]) rfl ⟨rfl, (Fr.refl _ _).alloc _⟩
theorem get_none {w : World} {l m : Nat} {most : Int} {N : List (Nat × Ent1)} (h : LruO w l m most N) (s : ByteArray) (hs : pf N s = none) :
    Calls Try.prog 52 #[pp l, .string s] w fun e w' => e = .returned (.tuple #[.agg #[.string ⟨#[]⟩, .string ⟨#[]⟩], .bool false]) ∧ Fr [] w w' := by
  have h1 := h.fr ((Fr.refl [] w).alloc (.cells #[.string ⟨#[]⟩, .string ⟨#[]⟩] 102)) (by simp) (by simp) (by simp)
  have hl := h1.look s
  rw [hs] at hl
  have c1 := h1.c1
  clear h hs h1
  go_enter Try.func52, Try.ntmps52
  go_wp2
  exact bodyPost_ret (v := .tuple #[.agg #[.string ⟨#[]⟩, .string ⟨#[]⟩], .bool false]) (by simp [results, Try.results52, go_sem]) rfl ⟨rfl, (Fr.refl _ _).alloc _⟩

set_option maxRecDepth 100000 in
set_option maxHeartbeats 1000000 in
theorem get_some {w : World} {l m : Nat} {most : Int} {ls rs : List (Nat × Ent1)} {x : Nat × Ent1} (h : LruO w l m most (ls ++ x :: rs)) (s : ByteArray) (hs : x.2.k = s) :
    Calls Try.prog 52 #[pp l, .string s] w fun e w' => e = .returned (.tuple #[.agg #[.string x.2.s, .string x.2.t], .bool true]) ∧ LruO w' l m most (x :: (ls ++ rs)) ∧ Fr (m :: l :: (ls ++ x :: rs).map (·.1)) w w' := by
  have h1 := h.fr ((Fr.refl [] w).alloc (.cells #[.string ⟨#[]⟩, .string ⟨#[]⟩] 102)) (by simp) (by simp) (by simp)
  have hl := h1.look s
  have hp := pf_at h.keys
  rw [hs] at hp
  rw [hp] at hl
  have c1 := h1.c1
  have hlt := h.lt
  have H := Lib.hid h1
  have HS := Lib.hid hs
  have HO := Lib.hid (out_ring h1.ring)
  have HX : Hid ((w.alloc (.cells #[.string ⟨#[]⟩, .string ⟨#[]⟩] 102)).heap[w.heap.size]? = some (.cells #[.string ⟨#[]⟩, .string ⟨#[]⟩] 102 (0, 0))) := heap_alloc w _
  have HL := Lib.hid hlt
  clear h hs hp h1 hlt
  go_enter Try.func52, Try.ntmps52
  go_wp2_with fail
  refine HO.out.mono ?_
  rintro e w1 ⟨rfl, hR, hN, hL, hF⟩
  have hnew : w.heap.size ∉ l :: (ls ++ x :: rs).map (·.1) := fun hm => by have := HL.out _ (List.mem_cons_of_mem _ hm); omega
  have HX1 := Lib.hid (hF.obj HX.out hnew)
  have HF := Lib.hid (first_ring hR hN (by
    have := H.out.ring.nod
    rw [List.map_append, List.map_cons] at this
    rw [List.map_append]
    refine (List.Perm.nodup_iff ?_).1 this
    refine List.Perm.cons _ ?_
    exact List.perm_middle))
  have HLo := Lib.hid (And.intro hL hF)
  clear hR hN hL hF hl
  go_wp2_with fail
  refine HF.out.mono ?_
  rintro e w2 ⟨rfl, hR, hL, hF⟩
  have hS2 : ∀ i ∈ l :: x.1 :: (ls ++ rs).map (·.1), i ∈ l :: (ls ++ x :: rs).map (·.1) := by
    intro i hi
    simp only [List.mem_cons, List.map_append, List.mem_append, List.map_cons] at hi ⊢
    rcases hi with h | h | h | h <;> simp [h]
  have hx2 := hF.obj HX1.out (fun hm => hnew (hS2 _ hm))
  have z0 : w2.cell? ⟨w.heap.size, 0, none⟩ = some (.string ⟨#[]⟩) := cell_of hx2 0
  have z1 : w2.cell? ⟨w.heap.size, 1, none⟩ = some (.string ⟨#[]⟩) := cell_of hx2 1
  have fz := frozen_of hx2
  have nn := hR.dat x (by simp)
  have n1 := nn.s
  have n2 := nn.t
  have hLL := HLo.out.1.trans hL
  have hFF : Fr (l :: (ls ++ x :: rs).map (·.1)) (w.alloc (.cells #[.string ⟨#[]⟩, .string ⟨#[]⟩] 102)) w2 := HLo.out.2.trans (hF.mono fun i hi => .inl (hS2 i hi))
  have hap := H.out.apart
  have HP : Hid (LruO w2 l m most (x :: (ls ++ rs)) ∧ Fr (m :: l :: (ls ++ x :: rs).map (·.1)) w w2 ∧ w.heap.size ∉ m :: l :: (x :: (ls ++ rs)).map (·.1)) := by
    refine ⟨⟨hLL.cell l 0 _ (by omega) H.out.c0, hLL.cell l 1 _ (by omega) H.out.c1, hR, ?_, ?_⟩, ?_, ?_⟩
    · have := H.out.keys
      rw [List.map_append, List.map_cons] at this
      rw [List.map_cons, List.map_append]
      exact (List.Perm.nodup_iff List.perm_middle).1 this
    · have hM := H.out.map.fr hFF (by simp only [List.mem_cons, not_or]; exact hap)
      have e1 : pf (x :: (ls ++ rs)) = pf (ls ++ x :: rs) := by
        funext u
        rw [pf_cons, ← congrFun (pf_del H.out.keys) u]
        by_cases hu : u = x.2.k
        · subst hu; rw [if_pos rfl, pf_at H.out.keys]
        · rw [if_neg hu, if_neg hu]
      have e2 : (x :: (ls ++ rs)).length = (ls ++ x :: rs).length := by simp only [List.length_cons, List.length_append]; omega
      rw [e1, e2]; exact hM
    · exact (((Fr.refl _ w).alloc _).trans (hFF.mono fun i hi => .inl (List.mem_cons_of_mem _ hi)))
    · intro hm
      rw [List.mem_cons, List.mem_cons] at hm
      rcases hm with h | h | h
      · have := HL.out m (by simp); omega
      · have := HL.out l (by simp); omega
      · have := HL.out w.heap.size (by
          simp only [List.mem_cons, List.map_append, List.mem_append, List.map_cons] at h ⊢
          rcases h with h | h | h <;> simp [h])
        omega
  clear hR hL hF hLL hFF hx2 nn hap
  have y0 : (w2.setCell ⟨w.heap.size, 0, none⟩ (.string x.2.s)).cell? ⟨w.heap.size, 0, none⟩ = some (.string x.2.s) := sc_same _ z0
  have y1 : (w2.setCell ⟨w.heap.size, 0, none⟩ (.string x.2.s)).cell? ⟨w.heap.size, 1, none⟩ = some (.string ⟨#[]⟩) := (sc_other _ _ (by simp)).trans z1
  have y2 : ((w2.setCell ⟨w.heap.size, 0, none⟩ (.string x.2.s)).setCell ⟨w.heap.size, 1, none⟩ (.string x.2.t)).cell? ⟨w.heap.size, 0, none⟩ = some (.string x.2.s) := (sc_other _ _ (by simp)).trans y0
  have y3 : ((w2.setCell ⟨w.heap.size, 0, none⟩ (.string x.2.s)).setCell ⟨w.heap.size, 1, none⟩ (.string x.2.t)).cell? ⟨w.heap.size, 1, none⟩ = some (.string x.2.t) := sc_same _ y1
  have hW : Hid (LruO ((w2.setCell ⟨w.heap.size, 0, none⟩ (.string x.2.s)).setCell ⟨w.heap.size, 1, none⟩ (.string x.2.t)) l m most (x :: (ls ++ rs)) ∧ Fr (m :: l :: (ls ++ x :: rs).map (·.1)) w ((w2.setCell ⟨w.heap.size, 0, none⟩ (.string x.2.s)).setCell ⟨w.heap.size, 1, none⟩ (.string x.2.t))) := by
    have hq : Fr [w.heap.size] w2 ((w2.setCell ⟨w.heap.size, 0, none⟩ (.string x.2.s)).setCell ⟨w.heap.size, 1, none⟩ (.string x.2.t)) := ((Fr.refl _ w2).setCell1 0 _).setCell1 1 _
    have hk := HP.out.2.2
    simp only [List.mem_cons, not_or] at hk
    refine ⟨HP.out.1.fr hq (by simpa using Ne.symm hk.2.1) (by simpa using Ne.symm hk.1) (fun y hy => ?_), fr_then HP.out.2.1 hq (by simp)⟩
    · simp only [List.mem_singleton]
      intro e
      exact hk.2.2 (by rw [← e]; exact List.mem_map.2 ⟨y, hy, rfl⟩)
  go_wp2
  refine bodyPost_ret (v := .tuple #[.agg #[.string x.2.s, .string x.2.t], .bool true]) (by simp [results, Try.results52, go_sem, y2, y3]) rfl ⟨rfl, ?_, ?_⟩
  · exact hW.out.1
  · exact hW.out.2
end Go.Proofs.Ytoichcjlfpijeaa
