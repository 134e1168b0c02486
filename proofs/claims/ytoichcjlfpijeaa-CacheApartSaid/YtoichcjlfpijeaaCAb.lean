/- CacheApart: two caches side by side. -/
import Derived.Test.YtoichcjlfpijeaaCKnown
import Derived.Test.YtoichcjlfpijeaaCOpen
namespace Go.Proofs.Ytoichcjlfpijeaa
set_option linter.unusedVariables false
open Go.RowKit Go.Bl

def sb : ByteArray := ⟨#[98]⟩
def sc : ByteArray := ⟨#[99]⟩
/-- Two caches, what they hold of one tenant, and blocks that stay. -/
def AB (w0 w : World) (c d : Nat) (most : Int) (own : ByteArray) (bs : List (Nat × Obj)) (oc : Option (List Ent1)) (vc : Int × Int) (od : Option (List Ent1)) (vd : Int × Int) : Prop :=
  ∃ Mc Kc Fc Md Kd Fd, Cc w c most Mc Kc Fc ∧ Cc w d most Md Kd Fd ∧ (Mc own = oc ∧ Kc own = vc) ∧ (Md own = od ∧ Kd own = vd) ∧ (∀ u, Mc u ≠ none → u ∈ [own]) ∧ (∀ u, Md u ≠ none → u ∈ [sa, sb, sc, own]) ∧
    (∀ i ∈ Fc, i ∉ Fd) ∧ Fr [] w0 w ∧ (∀ i ∈ Fc, w0.heap.size ≤ i) ∧ (∀ i ∈ Fd, w0.heap.size ≤ i) ∧ ∀ p ∈ bs, w.heap[p.1]? = some p.2 ∧ p.1 ∉ Fc ∧ p.1 ∉ Fd

section
variable {w0 w : World} {c d : Nat} {most : Int} {own : ByteArray} {bs : List (Nat × Obj)} {oc od : Option (List Ent1)} {vc vd : Int × Int}

theorem AB.fr {w' : World} (h : AB w0 w c d most own bs oc vc od vd) (hF : Fr [] w w') : AB w0 w' c d most own bs oc vc od vd := by
  obtain ⟨Mc, Kc, Fc, Md, Kd, Fd, h1, h2, h3, h4, h5, h6, h7, h8, h9, h10, h11⟩ := h
  exact ⟨Mc, Kc, Fc, Md, Kd, Fd, h1.fr hF (by simp), h2.fr hF (by simp), h3, h4, h5, h6, h7, h8.trans hF, h9, h10, fun p hp => ⟨hF.obj (h11 p hp).1 (by simp), (h11 p hp).2⟩⟩
theorem AB.sub {bs' : List (Nat × Obj)} (h : AB w0 w c d most own bs oc vc od vd) (hs : ∀ p ∈ bs', p ∈ bs) : AB w0 w c d most own bs' oc vc od vd := by
  obtain ⟨Mc, Kc, Fc, Md, Kd, Fd, h1, h2, h3, h4, h5, h6, h7, h8, h9, h10, h11⟩ := h
  exact ⟨Mc, Kc, Fc, Md, Kd, Fd, h1, h2, h3, h4, h5, h6, h7, h8, h9, h10, fun p hp => h11 p (hs p hp)⟩
theorem AB.block (h : AB w0 w c d most own bs oc vc od vd) {p : Nat × Obj} (hp : p ∈ bs) : w.heap[p.1]? = some p.2 := by
  obtain ⟨Mc, Kc, Fc, Md, Kd, Fd, h1, h2, h3, h4, h5, h6, h7, h8, h9, h10, h11⟩ := h
  exact (h11 p hp).1
theorem AB.old (h : AB w0 w c d most own bs oc vc od vd) : Fr [] w0 w := by
  obtain ⟨Mc, Kc, Fc, Md, Kd, Fd, h1, h2, h3, h4, h5, h6, h7, h8, h9, h10, h11⟩ := h
  exact h8
/-- A new block, or one that is written that no cache has. -/
theorem AB.new {w' : World} {B : Nat} {o : Obj} (h : AB w0 w c d most own bs oc vc od vd) (hF : Fr [] w w') (hB : w'.heap[B]? = some o) (hn : w.heap.size ≤ B) : AB w0 w' c d most own ((B, o) :: bs) oc vc od vd := by
  obtain ⟨Mc, Kc, Fc, Md, Kd, Fd, h1, h2, h3, h4, h5, h6, h7, h8, h9, h10, h11⟩ := h
  refine ⟨Mc, Kc, Fc, Md, Kd, Fd, h1.fr hF (by simp), h2.fr hF (by simp), h3, h4, h5, h6, h7, h8.trans hF, h9, h10, fun p hp => ?_⟩
  rcases List.mem_cons.1 hp with rfl | hp
  · exact ⟨hB, fun hm => by have := h1.lt _ hm; dsimp only at this; omega, fun hm => by have := h2.lt _ hm; dsimp only at this; omega⟩
  · exact ⟨hF.obj (h11 p hp).1 (by simp), (h11 p hp).2⟩

theorem AB.keptC {w' : World} {Mc : ByteArray → Option (List Ent1)} {Kc Kc' : ByteArray → Int × Int} {Fc : List Nat} {Md : ByteArray → Option (List Ent1)} {Kd : ByteArray → Int × Int} {Fd : List Nat} {o' : Option (List Ent1)}
    (h1 : Cc w c most Mc Kc Fc) (h2 : Cc w d most Md Kd Fd) (h4 : Md own = od ∧ Kd own = vd) (h5 : ∀ u, Mc u ≠ none → u ∈ [own]) (h6 : ∀ u, Md u ≠ none → u ∈ [sa, sb, sc, own]) (h7 : ∀ i ∈ Fc, i ∉ Fd) (h8 : Fr [] w0 w) (h9 : ∀ i ∈ Fc, w0.heap.size ≤ i) (h10 : ∀ i ∈ Fd, w0.heap.size ≤ i)
    (h11 : ∀ p ∈ bs, w.heap[p.1]? = some p.2 ∧ p.1 ∉ Fc ∧ p.1 ∉ Fd) (hK : Kept w c most (upd Mc own o') Kc' Fc w') : AB w0 w' c d most own bs o' (Kc' own) od vd := by
  obtain ⟨⟨F', hC, hs⟩, hF⟩ := hK
  have hz := h8.size
  refine ⟨_, Kc', F', Md, Kd, Fd, hC, h2.fr hF (fun i hi hm => h7 i hm hi), ⟨upd_at _ _ _, rfl⟩, h4, upd_sup h5 (List.mem_singleton_self own), h6, fun i hi hd => ?_, h8.new hF h9, fun i hi => ?_, h10, fun p hp => ⟨hF.obj (h11 p hp).1 (h11 p hp).2.1, fun hm => ?_, (h11 p hp).2.2⟩⟩
  · rcases hs i hi with h | h
    · exact h7 i h hd
    · have := h2.lt i hd; omega
  · rcases hs i hi with h | h
    · exact h9 i h
    · omega
  · rcases hs _ hm with h | h
    · exact (h11 p hp).2.1 h
    · have := lt_of_obj (h11 p hp).1; omega
theorem AB.keptD {w' : World} {Mc : ByteArray → Option (List Ent1)} {Kc Kd' : ByteArray → Int × Int} {Fc : List Nat} {Md Md' : ByteArray → Option (List Ent1)} {Kd : ByteArray → Int × Int} {Fd S : List Nat} {o' : Option (List Ent1)} {F' : List Nat}
    (h1 : Cc w c most Mc Kc Fc) (h2 : Cc w d most Md Kd Fd) (h3 : Mc own = oc ∧ Kc own = vc) (h5 : ∀ u, Mc u ≠ none → u ∈ [own]) (h7 : ∀ i ∈ Fc, i ∉ Fd) (h8 : Fr [] w0 w) (h9 : ∀ i ∈ Fc, w0.heap.size ≤ i) (h10 : ∀ i ∈ Fd, w0.heap.size ≤ i)
    (h11 : ∀ p ∈ bs, w.heap[p.1]? = some p.2 ∧ p.1 ∉ Fc ∧ p.1 ∉ Fd) (hC : Cc w' d most Md' Kd' F') (hs : ∀ i ∈ F', i ∈ Fd ∨ w.heap.size ≤ i) (hF : Fr S w w') (hS : ∀ i ∈ S, i ∈ Fd ∨ (w0.heap.size ≤ i ∧ i ∉ Fc ∧ ∀ p ∈ bs, p.1 ≠ i)) (ho : Md' own = o') (h6 : ∀ u, Md' u ≠ none → u ∈ [sa, sb, sc, own]) :
    AB w0 w' c d most own bs oc vc o' (Kd' own) := by
  have hz := h8.size
  refine ⟨Mc, Kc, Fc, Md', Kd', F', h1.fr hF (fun i hi hm => ?_), hC, h3, ⟨ho, rfl⟩, h5, h6, fun i hi hd => ?_, h8.new hF (fun i hi => ?_), h9, fun i hi => ?_, fun p hp => ⟨hF.obj (h11 p hp).1 (fun hm => ?_), (h11 p hp).2.1, fun hm => ?_⟩⟩
  · rcases hS i hm with h | h
    · exact h7 i hi h
    · exact h.2.1 hi
  · rcases hs i hd with h | h
    · exact h7 i hi h
    · have := h1.lt i hi; omega
  · rcases hS i hi with h | h
    · exact h10 i h
    · exact h.1
  · rcases hs i hi with h | h
    · exact h10 i h
    · omega
  · rcases hS _ hm with h | h
    · exact (h11 p hp).2.2 h
    · exact h.2.2 p hp rfl
  · rcases hs _ hm with h | h
    · exact (h11 p hp).2.2 h
    · have := lt_of_obj (h11 p hp).1; omega
theorem sup4 {Md : ByteArray → Option (List Ent1)} {v : Option (List Ent1)} (h6 : ∀ u, Md u ≠ none → u ∈ [sa, sb, sc, own]) : ∀ u, upd Md own v u ≠ none → u ∈ [sa, sb, sc, own] := upd_sup h6 (by simp)

theorem ab_get_c (h : AB w0 w c d most own bs oc vc od vd) (k s : ByteArray) : Calls Try.prog 21 #[pp c, .string own, .string k, .string s] w fun e w' => e = .returned (.tuple #[.string (oT (getH oc k s)), .bool (getH oc k s).isSome]) ∧ AB w0 w' c d most own bs (getL oc k s) (getC oc k s vc) od vd := by
  obtain ⟨Mc, Kc, Fc, Md, Kd, Fd, h1, h2, ⟨rfl, rfl⟩, h4, h5, h6, h7, h8, h9, h10, h11⟩ := h
  refine (get_any2 h1 own k s).mono ?_
  rintro e w' ⟨rfl, hK⟩
  have := AB.keptC h1 h2 h4 h5 h6 h7 h8 h9 h10 h11 hK
  rw [show setC Kc own (getC (Mc own) k s (Kc own)) own = getC (Mc own) k s (Kc own) from if_pos rfl] at this
  exact ⟨rfl, this⟩
theorem ab_get_d (h : AB w0 w c d most own bs oc vc od vd) (k s : ByteArray) : Calls Try.prog 21 #[pp d, .string own, .string k, .string s] w fun e w' => e = .returned (.tuple #[.string (oT (getH od k s)), .bool (getH od k s).isSome]) ∧ AB w0 w' c d most own bs oc vc (getL od k s) (getC od k s vd) := by
  obtain ⟨Mc, Kc, Fc, Md, Kd, Fd, h1, h2, h3, ⟨rfl, rfl⟩, h5, h6, h7, h8, h9, h10, h11⟩ := h
  refine (get_any2 h2 own k s).mono ?_
  rintro e w' ⟨rfl, ⟨F', hC, hs⟩, hF⟩
  have := AB.keptD h1 h2 h3 h5 h7 h8 h9 h10 h11 hC hs hF (fun i hi => .inl hi) (upd_at _ _ _) (sup4 h6)
  rw [show setC Kd own (getC (Md own) k s (Kd own)) own = getC (Md own) k s (Kd own) from if_pos rfl] at this
  exact ⟨rfl, this⟩
theorem ab_put_c (h : AB w0 w c d most own bs oc vc od vd) (k s x : ByteArray) : Calls Try.prog 22 #[pp c, .string own, .string k, .string s, .string x] w fun e w' => e = .returned (.int .i64 (putR k x)) ∧ AB w0 w' c d most own bs (putL oc k s x most) vc od vd := by
  obtain ⟨Mc, Kc, Fc, Md, Kd, Fd, h1, h2, ⟨rfl, rfl⟩, h4, h5, h6, h7, h8, h9, h10, h11⟩ := h
  refine (put_any2 h1 own k s x h5 (by simp)).mono ?_
  rintro e w' ⟨rfl, hK⟩
  exact ⟨rfl, AB.keptC h1 h2 h4 h5 h6 h7 h8 h9 h10 h11 hK⟩
theorem ab_put_d (h : AB w0 w c d most own bs oc vc od vd) (k s x : ByteArray) : Calls Try.prog 22 #[pp d, .string own, .string k, .string s, .string x] w fun e w' => e = .returned (.int .i64 (putR k x)) ∧ AB w0 w' c d most own bs oc vc (putL od k s x most) vd := by
  obtain ⟨Mc, Kc, Fc, Md, Kd, Fd, h1, h2, h3, ⟨rfl, rfl⟩, h5, h6, h7, h8, h9, h10, h11⟩ := h
  refine (put_any2 h2 own k s x h6 (by simp)).mono ?_
  rintro e w' ⟨rfl, ⟨F', hC, hs⟩, hF⟩
  exact ⟨rfl, AB.keptD h1 h2 h3 h5 h7 h8 h9 h10 h11 hC hs hF (fun i hi => .inl hi) (upd_at _ _ _) (sup4 h6)⟩
theorem ab_forget_c (h : AB w0 w c d most own bs oc vc od vd) : Calls Try.prog 23 #[pp c, .string own] w fun e w' => e = .returned (.int .i64 (lenL oc)) ∧ AB w0 w' c d most own bs (forgetL oc) vc od vd := by
  obtain ⟨Mc, Kc, Fc, Md, Kd, Fd, h1, h2, ⟨rfl, rfl⟩, h4, h5, h6, h7, h8, h9, h10, h11⟩ := h
  refine (forget_any h1 own).mono ?_
  rintro e w' ⟨rfl, hK⟩
  exact ⟨rfl, AB.keptC h1 h2 h4 h5 h6 h7 h8 h9 h10 h11 hK⟩
theorem ab_forget_d (h : AB w0 w c d most own bs oc vc od vd) : Calls Try.prog 23 #[pp d, .string own] w fun e w' => e = .returned (.int .i64 (lenL od)) ∧ AB w0 w' c d most own bs oc vc (forgetL od) vd := by
  obtain ⟨Mc, Kc, Fc, Md, Kd, Fd, h1, h2, h3, ⟨rfl, rfl⟩, h5, h6, h7, h8, h9, h10, h11⟩ := h
  refine (forget_any h2 own).mono ?_
  rintro e w' ⟨rfl, ⟨F', hC, hs⟩, hF⟩
  exact ⟨rfl, AB.keptD h1 h2 h3 h5 h7 h8 h9 h10 h11 hC hs hF (fun i hi => .inl hi) (upd_at _ _ _) (sup4 h6)⟩
theorem ab_len_c (h : AB w0 w c d most own bs oc vc od vd) : Calls Try.prog 24 #[pp c, .string own] w fun e w' => e = .returned (.int .i64 (lenL oc)) ∧ w = w' := by
  obtain ⟨Mc, Kc, Fc, Md, Kd, Fd, h1, h2, ⟨rfl, rfl⟩, h4, h5, h6, h7, h8, h9, h10, h11⟩ := h
  exact len_any2 h1 own
theorem ab_len_d (h : AB w0 w c d most own bs oc vc od vd) : Calls Try.prog 24 #[pp d, .string own] w fun e w' => e = .returned (.int .i64 (lenL od)) ∧ w = w' := by
  obtain ⟨Mc, Kc, Fc, Md, Kd, Fd, h1, h2, h3, ⟨rfl, rfl⟩, h5, h6, h7, h8, h9, h10, h11⟩ := h
  exact len_any2 h2 own
theorem ab_counts_c (h : AB w0 w c d most own bs oc vc od vd) : Calls Try.prog 25 #[pp c, .string own] w fun e w' => e = .returned (.agg #[.int .i64 vc.1, .int .i64 vc.2]) ∧ Fr [] w w' := by
  obtain ⟨Mc, Kc, Fc, Md, Kd, Fd, h1, h2, ⟨rfl, rfl⟩, h4, h5, h6, h7, h8, h9, h10, h11⟩ := h
  exact counts_any h1 own
theorem ab_counts_d (h : AB w0 w c d most own bs oc vc od vd) : Calls Try.prog 25 #[pp d, .string own] w fun e w' => e = .returned (.agg #[.int .i64 vd.1, .int .i64 vd.2]) ∧ Fr [] w w' := by
  obtain ⟨Mc, Kc, Fc, Md, Kd, Fd, h1, h2, h3, ⟨rfl, rfl⟩, h5, h6, h7, h8, h9, h10, h11⟩ := h
  exact counts_any h2 own
/-- Another tenant's call. -/
theorem ab_step {r : Nat} (h : AB w0 w c d most own ((r, .cells #[.int .i64 1, .slice none 0 0, .slice none 0 0] 58 (0, 0)) :: bs) oc vc od vd) (hr0 : w0.heap.size ≤ r) (hbr : ∀ p ∈ bs, p.1 ≠ r) (o : COp) (h5 : o.kind ≠ 5) (ht : o.t ∈ [sa, sb, sc]) (hne : o.t ≠ own) :
    Calls Try.prog 20 #[pp d, pp r, o.agg] w fun e w' => (∃ b, e = .returned (.bool b)) ∧ AB w0 w' c d most own bs oc vc od vd := by
  obtain ⟨Mc, Kc, Fc, Md, Kd, Fd, h1, h2, h3, ⟨rfl, rfl⟩, h5', h6, h7, h8, h9, h10, h11⟩ := h
  have hr := h11 _ (List.mem_cons_self)
  refine (stepc_any h2 hr.1 hr.2.2 o h5 h6 (by simp)).mono ?_
  rintro e w' ⟨hb, M', K', F', hC, hs, hF, hu⟩
  refine ⟨hb, ?_⟩
  have e2 := hu own (Ne.symm hne)
  have := AB.keptD (o' := Md own) h1 h2 h3 h5' h7 h8 h9 h10 (fun p hp => h11 p (List.mem_cons_of_mem _ hp)) hC hs hF (fun i hi => by
    rcases List.mem_cons.1 hi with rfl | hi
    · exact .inr ⟨hr0, hr.2.1, hbr⟩
    · exact .inl hi) e2.1 (fun u hu' => by
    by_cases e : u = o.t
    · rw [e]; simp only [List.mem_cons, List.not_mem_nil, or_false] at ht ⊢
      rcases ht with h | h | h <;> simp [h]
    · rw [(hu u e).1] at hu'; exact h6 u hu')
  rw [e2.2] at this
  exact this
end
end Go.Proofs.Ytoichcjlfpijeaa
