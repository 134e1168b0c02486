/- The cache: what it is; Len, Counts, Forget. -/
import Derived.Test.YtoichcjlfpijeaaCPut
namespace Go.Proofs.Ytoichcjlfpijeaa
open Go.RowKit Go.Bl

/-- A list by keys, by what it holds and its blocks. -/
def LruA (w : World) (l : Nat) (most : Int) (L : List Ent1) (F : List Nat) : Prop := ∃ m N, LruO w l m most N ∧ N.map (·.2) = L ∧ F = m :: l :: N.map (·.1)
theorem LruA.fr {w w' : World} {l : Nat} {most : Int} {L : List Ent1} {F S : List Nat} (h : LruA w l most L F) (hF : Fr S w w') (hS : ∀ i ∈ F, i ∉ S) : LruA w' l most L F := by
  obtain ⟨m, N, h1, h2, rfl⟩ := h
  exact ⟨m, N, h1.fr hF (hS l (by simp)) (hS m (by simp)) (fun x hx => hS x.1 (by simp only [List.mem_cons]; exact .inr (.inr (List.mem_map.2 ⟨x, hx, rfl⟩)))), h2, rfl⟩
theorem LruA.lt {w : World} {l : Nat} {most : Int} {L : List Ent1} {F : List Nat} (h : LruA w l most L F) : ∀ i ∈ F, i < w.heap.size := by
  obtain ⟨m, N, h1, h2, rfl⟩ := h
  exact h1.lt
theorem alen {w : World} {l : Nat} {most : Int} {L : List Ent1} {F : List Nat} (h : LruA w l most L F) : Calls Try.prog 54 #[pp l] w fun e w' => e = .returned (.int .i64 L.length) ∧ w = w' := by
  obtain ⟨m, N, h1, rfl, rfl⟩ := h
  rw [List.length_map]
  exact len_some h1
theorem adel {w : World} {l : Nat} {most : Int} {L : List Ent1} {F : List Nat} (h : LruA w l most L F) (k : ByteArray) :
    Calls Try.prog 53 #[pp l, .string k] w fun e w' => e = .returned (.bool (hasE L k)) ∧ (∃ F', LruA w' l most (delE L k) F' ∧ ∀ i ∈ F', i ∈ F ∨ w.heap.size ≤ i) ∧ Fr F w w' := by
  obtain ⟨m, N, h1, rfl, rfl⟩ := h
  refine (del_any h1 k).mono ?_
  rintro e w' ⟨rfl, N', h2, h3, h4, _, hF, _⟩
  refine ⟨rfl, ⟨_, ⟨m, N', h2, h3, rfl⟩, fun i hi => .inl ?_⟩, hF⟩
  simp only [List.mem_cons, List.mem_map] at hi ⊢
  exact hi.imp id (.imp id fun ⟨x, hx, e⟩ => ⟨x, h4 x hx, e⟩)
def findE (L : List Ent1) (k : ByteArray) : Option Ent1 := L.find? fun e => decide (e.k = k)
def touchE (L : List Ent1) (k : ByteArray) : List Ent1 := match findE L k with | none => L | some e => e :: delE L k
def oS (o : Option Ent1) : ByteArray := match o with | none => ⟨#[]⟩ | some e => e.s
def oT (o : Option Ent1) : ByteArray := match o with | none => ⟨#[]⟩ | some e => e.t
theorem aget {w : World} {l : Nat} {most : Int} {L : List Ent1} {F : List Nat} (h : LruA w l most L F) (k : ByteArray) :
    Calls Try.prog 52 #[pp l, .string k] w fun e w' => e = .returned (.tuple #[.agg #[.string (oS (findE L k)), .string (oT (findE L k))], .bool (findE L k).isSome]) ∧ (∃ F', LruA w' l most (touchE L k) F' ∧ ∀ i ∈ F', i ∈ F ∨ w.heap.size ≤ i) ∧ Fr F w w' := by
  obtain ⟨m, N, h1, rfl, rfl⟩ := h
  cases hp : pf N k with
  | none =>
    have hk := pf_none.1 hp
    have hf : findE (N.map (·.2)) k = none := by
      unfold findE
      rw [List.find?_eq_none]
      intro e he
      obtain ⟨y, hy, rfl⟩ := List.mem_map.1 he
      simpa using hk y hy
    refine (get_none h1 k hp).mono ?_
    rintro e w' ⟨rfl, hF⟩
    unfold touchE
    rw [hf]
    exact ⟨rfl, ⟨_, ⟨m, N, h1.fr hF (by simp) (by simp) (by simp), rfl, rfl⟩, fun i hi => .inl hi⟩, hF.mono (by simp)⟩
  | some v =>
    obtain ⟨ls, x, rs, rfl, hk, rfl⟩ := pf_some hp
    have hkk : (((ls.map (·.2)) ++ x.2 :: (rs.map (·.2))).map (·.k)).Nodup := by have := h1.keys; simpa [Function.comp_def] using this
    have hf : findE ((ls ++ x :: rs).map (·.2)) k = some x.2 := by
      unfold findE
      rw [List.map_append, List.map_cons, List.find?_append]
      have h2 : (ls.map (·.2)).find? (fun e => decide (e.k = k)) = none := by
        rw [List.find?_eq_none]
        intro e he h3
        rw [List.map_append, List.map_cons, List.nodup_append] at hkk
        exact hkk.2.2 e.k (List.mem_map.2 ⟨e, he, rfl⟩) x.2.k (by simp) (by rw [hk]; simpa using h3)
      rw [h2]
      simp [hk]
    refine (get_some h1 k hk).mono ?_
    rintro e w' ⟨rfl, hL, hF⟩
    unfold touchE
    rw [hf]
    refine ⟨rfl, ⟨_, ⟨m, _, hL, ?_, rfl⟩, fun i hi => .inl ?_⟩, hF⟩
    · rw [List.map_cons, List.map_append, List.map_append, List.map_cons, ← hk, delE_mid hkk]
    · simp only [List.mem_cons, List.mem_map, List.mem_append] at hi ⊢
      rcases hi with h | h | ⟨y, h, e⟩
      · exact .inl h
      · exact .inr (.inl h)
      · exact .inr (.inr ⟨y, by rcases h with h | h | h <;> simp [h], e⟩)
theorem aput {w : World} {l : Nat} {most : Int} {L : List Ent1} {F : List Nat} (h : LruA w l most L F) (k s t : ByteArray) (hm0 : 1 ≤ most) (hm1 : most ≤ 64) (hlen : (L.length : Int) ≤ most) :
    Calls Try.prog 56 #[pp l, .string k, .agg #[.string s, .string t]] w fun e w' => (∃ g ok, e = .returned (.tuple #[.string g, .bool ok])) ∧ (∃ F', LruA w' l most (putE L ⟨k, s, t⟩ most) F' ∧ ∀ i ∈ F', i ∈ F ∨ w.heap.size ≤ i) ∧ Fr F w w' := by
  obtain ⟨m, N, h1, rfl, rfl⟩ := h
  rw [List.length_map] at hlen
  refine (put_any h1 k s t hm0 hm1 hlen).mono ?_
  rintro e w' ⟨he, N2, h2, h3, h4, hF⟩
  refine ⟨he, ⟨_, ⟨m, N2, h2, h3, rfl⟩, fun i hi => ?_⟩, hF⟩
  simp only [List.mem_cons] at hi ⊢
  rcases hi with h | h | h
  · exact .inl (.inl h)
  · exact .inl (.inr (.inl h))
  · obtain ⟨x, hx, rfl⟩ := List.mem_map.1 h
    exact (h4 x hx).imp (fun h => .inr (.inr h)) id
theorem anew (n : Int) (h : 1 ≤ n) (w : World) : Calls Try.prog 55 #[.int .i64 n] w fun e w' => ∃ l F, e = .returned (pp l) ∧ LruA w' l n [] F ∧ Fr [] w w' ∧ ∀ i ∈ F, w.heap.size ≤ i := by
  refine (new_lru n h w).mono ?_
  rintro e w' ⟨l, m, rfl, h1, h2, h3, h4⟩
  exact ⟨l, _, rfl, ⟨m, [], h1, rfl, rfl⟩, h2, by simp; omega⟩
theorem putE_len (L : List Ent1) (e : Ent1) (most : Int) (h0 : 1 ≤ most) (h : (L.length : Int) ≤ most) : ((putE L e most).length : Int) ≤ most := by
  unfold putE
  split
  · assumption
  · have : (delE L e.k).length ≤ L.length := List.length_filter_le _ _
    simp only [List.length_dropLast, List.length_cons]; omega
theorem touchE_len (L : List Ent1) (k : ByteArray) : (touchE L k).length ≤ L.length := by
  unfold touchE
  cases hf : findE L k with
  | none => exact Nat.le_refl _
  | some e =>
    unfold findE at hf
    have h1 := List.mem_of_find?_eq_some hf
    have h2 := List.find?_some hf
    have : (delE L k).length < L.length := by
      unfold delE
      refine List.length_filter_lt_length_iff_exists.2 ⟨e, h1, by simpa using h2⟩
    simp only [List.length_cons]; omega
theorem delE_len (L : List Ent1) (k : ByteArray) : (delE L k).length ≤ L.length := List.length_filter_le _ _
end Go.Proofs.Ytoichcjlfpijeaa
