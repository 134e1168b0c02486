/- The cache: each call by one contract. -/
import Derived.Test.YtoichcjlfpijeaaCGetB
import Derived.Test.YtoichcjlfpijeaaCGetC
import Derived.Test.YtoichcjlfpijeaaCGetD
import Derived.Test.YtoichcjlfpijeaaCGetE
namespace Go.Proofs.Ytoichcjlfpijeaa
open Go.RowKit Go.Bl

theorem toList_inj {a b : ByteArray} (h : a.toList = b.toList) : a = b := by
  rw [ByteArray.toList_eq, ByteArray.toList_eq] at h
  obtain ⟨⟨x⟩⟩ := a
  obtain ⟨⟨y⟩⟩ := b
  simp only at h
  rw [h]
theorem nodup_le {K : List ByteArray} {l : List ByteArray} (hn : l.Nodup) (h : ∀ x ∈ l, x ∈ K) : l.length ≤ K.length := by
  induction l generalizing K with
  | nil => simp
  | cons a l ih =>
    rw [List.nodup_cons] at hn
    have ha := h a (by simp)
    have h1 := ih (K := K.filter fun x => decide (x ≠ a)) hn.2 (fun x hx => List.mem_filter.2 ⟨h x (by simp [hx]), by simpa using (fun e => hn.1 (by rw [← e]; exact hx) : x ≠ a)⟩)
    have h2 : (K.filter fun x => decide (x ≠ a)).length < K.length := List.length_filter_lt_length_iff_exists.2 ⟨a, ha, by simp⟩
    simp only [List.length_cons]; omega

theorem map_count {w : World} {m : Nat} {f : ByteArray → Option Value} {n : Nat} (h : MapAt w m f n) {K : List ByteArray} (hK : ∀ s, f s ≠ none → s ∈ K) : n ≤ K.length := by
  obtain ⟨es, clk, hm, hn, hk, hst, hf⟩ := h.ex
  have key : ∀ l : List MapEntry, (∀ e ∈ l, ∃ b, e.key = .string b) → ∃ kb : List ByteArray, l.map (·.key) = kb.map Value.string := by
    intro l hl
    induction l with
    | nil => exact ⟨[], rfl⟩
    | cons e l ih =>
      obtain ⟨b, hb⟩ := hl e (by simp)
      obtain ⟨kb, hkb⟩ := ih (fun x hx => hl x (by simp [hx]))
      exact ⟨b :: kb, by simp [hb, hkb]⟩
  obtain ⟨kb, hkb⟩ := key es.toList hk
  have hnd := hst.2.2
  rw [hkb] at hnd
  have hlen : kb.length = n := by
    have := congrArg List.length hkb
    simp only [List.length_map, Array.length_toList] at this
    omega
  rw [← hlen]
  have hnd2 : kb.Nodup := by
    have := List.pairwise_map.1 hnd
    exact this.imp (fun h e => h (by rw [e]))
  refine nodup_le hnd2 fun b hb => hK b ?_
  rw [← hf b]
  intro hl
  have h1 : Value.string b ∈ es.toList.map (·.key) := by rw [hkb]; exact List.mem_map.2 ⟨b, hb, rfl⟩
  obtain ⟨e, he, hek⟩ := List.mem_map.1 h1
  exact lk_none.1 hl e he hek

/-- The cache by what it holds. -/
def Cc (w : World) (c : Nat) (most : Int) (M : ByteArray → Option (List Ent1)) (C : ByteArray → Int × Int) (F : List Nat) : Prop := ∃ n, Cac w c most M C n F
theorem Cc.fr {w w' : World} {c : Nat} {most : Int} {M : ByteArray → Option (List Ent1)} {C : ByteArray → Int × Int} {F S : List Nat} (h : Cc w c most M C F) (hF : Fr S w w') (hS : ∀ i ∈ F, i ∉ S) : Cc w' c most M C F := by
  obtain ⟨n, h⟩ := h; exact ⟨n, h.fr hF hS⟩
theorem Cc.lt {w : World} {c : Nat} {most : Int} {M : ByteArray → Option (List Ent1)} {C : ByteArray → Int × Int} {F : List Nat} (h : Cc w c most M C F) : ∀ i ∈ F, i < w.heap.size := by
  obtain ⟨n, h⟩ := h; exact h.lt

def upd (M : ByteArray → Option (List Ent1)) (t : ByteArray) (v : Option (List Ent1)) : ByteArray → Option (List Ent1) := fun u => if u = t then v else M u
theorem upd_self (M : ByteArray → Option (List Ent1)) (t : ByteArray) : upd M t (M t) = M := by
  funext u; unfold upd
  by_cases h : u = t
  · rw [if_pos h, h]
  · rw [if_neg h]
def Kept (w : World) (c : Nat) (most : Int) (M : ByteArray → Option (List Ent1)) (C : ByteArray → Int × Int) (F : List Nat) (w' : World) : Prop :=
  (∃ F', Cc w' c most M C F' ∧ ∀ i ∈ F', i ∈ F ∨ w.heap.size ≤ i) ∧ Fr F w w'

section
variable {w : World} {c : Nat} {most : Int} {M : ByteArray → Option (List Ent1)} {C : ByteArray → Int × Int} {F : List Nat}

def lenL (o : Option (List Ent1)) : Nat := match o with | none => 0 | some L => L.length
theorem len_any2 (h : Cc w c most M C F) (t : ByteArray) : Calls Try.prog 24 #[pp c, .string t] w fun e w' => e = .returned (.int .i64 (lenL (M t))) ∧ w = w' := by
  obtain ⟨n, mm, mc, f, g, nc, G, h⟩ := h
  exact clen_o h t
theorem counts_any (h : Cc w c most M C F) (t : ByteArray) : Calls Try.prog 25 #[pp c, .string t] w fun e w' => e = .returned (.agg #[.int .i64 (C t).1, .int .i64 (C t).2]) ∧ Fr [] w w' := by
  obtain ⟨n, mm, mc, f, g, nc, G, h⟩ := h
  exact counts_o h t
def forgetL (o : Option (List Ent1)) : Option (List Ent1) := if 0 < lenL o then none else o
theorem forget_any (h : Cc w c most M C F) (t : ByteArray) : Calls Try.prog 23 #[pp c, .string t] w fun e w' => e = .returned (.int .i64 (lenL (M t))) ∧ Kept w c most (upd M t (forgetL (M t))) C F w' := by
  obtain ⟨n, mm, mc, f, g, nc, G, h⟩ := h
  refine (forget_o h t).mono ?_
  rintro e w' ⟨rfl, ⟨f', n', hO, _, _⟩, hF⟩
  refine ⟨rfl, ⟨F, ⟨n', mm, mc, f', g, nc, G, ?_⟩, fun i hi => .inl hi⟩, hF⟩
  have e : upd M t (forgetL (M t)) = forgetM M t := by
    unfold forgetL forgetM
    show upd M t (if 0 < lenM M t then none else M t) = _
    by_cases hk : 0 < lenM M t
    · rw [if_pos hk, if_pos hk]; rfl
    · rw [if_neg hk, if_neg hk, upd_self]
  rw [e]; exact hO
def putOk (k x : ByteArray) : Prop := ¬ (65536 < x.size ∨ 524288 < k.size)
instance (k x : ByteArray) : Decidable (putOk k x) := by unfold putOk; infer_instance
def putL (o : Option (List Ent1)) (k s x : ByteArray) (most : Int) : Option (List Ent1) := if putOk k x then some (putE (o.getD []) ⟨k, s, x⟩ most) else o
def putR (k x : ByteArray) : Int := if putOk k x then 0 else 4
theorem put_any2 (h : Cc w c most M C F) (t k s x : ByteArray) {K : List ByteArray} (hK : ∀ u, M u ≠ none → u ∈ K) (hl : K.length < 16) :
    Calls Try.prog 22 #[pp c, .string t, .string k, .string s, .string x] w fun e w' => e = .returned (.int .i64 (putR k x)) ∧ Kept w c most (upd M t (putL (M t) k s x most)) C F w' := by
  obtain ⟨n, mm, mc, f, g, nc, G, h⟩ := h
  have hn : n < 16 := by
    have := map_count h.tm (K := K) (fun s hs => by
      cases hf : f s with
      | none => exact absurd hf hs
      | some v =>
        obtain ⟨l, L, _, h2, _⟩ := h.yes s v hf
        exact hK s (by rw [h2]; simp))
    omega
  unfold putL putR
  by_cases hs : putOk k x
  · rw [if_pos hs, if_pos hs]
    have hP : Calls Try.prog 22 #[pp c, .string t, .string k, .string s, .string x] w (CPutPost w c mm mc most g nc M C F t k s x) := by
      by_cases hf : f t = none
      · exact cput_new h t k s x hn hs hf
      · exact cput_old_any h t k s x hs hf
    refine hP.mono ?_
    rintro e w' ⟨rfl, ⟨f', n', G', F', hO, hsub⟩, hF⟩
    exact ⟨rfl, ⟨F', ⟨n', mm, mc, f', g, nc, G', hO⟩, hsub⟩, hF⟩
  · rw [if_neg hs, if_neg hs]
    have hs' : 65536 < x.size ∨ 524288 < k.size := by unfold putOk at hs; omega
    refine (cput_size h t k s x hn hs').mono ?_
    rintro e w' ⟨rfl, rfl⟩
    rw [upd_self]
    exact ⟨rfl, ⟨F, ⟨n, mm, mc, f, g, nc, G, h⟩, fun i hi => .inl hi⟩, Fr.refl _ _⟩

def getH (o : Option (List Ent1)) (k s : ByteArray) : Option Ent1 := match o with | none => none | some L => (match findE L k with | none => none | some e => if e.s = s then some e else none)
def getL (o : Option (List Ent1)) (k s : ByteArray) : Option (List Ent1) := match o with
  | none => none
  | some L => match findE L k with
    | none => some L
    | some e => if e.s = s then some (touchE L k) else if (delE (touchE L k) k).length = 0 then none else some (delE (touchE L k) k)
def getC (o : Option (List Ent1)) (k s : ByteArray) (v : Int × Int) : Int × Int := if (getH o k s).isSome then (wrap64 (v.1 + 1), v.2) else (v.1, wrap64 (v.2 + 1))

theorem get_any2 (h : Cc w c most M C F) (t k s : ByteArray) :
    Calls Try.prog 21 #[pp c, .string t, .string k, .string s] w fun e w' => e = .returned (.tuple #[.string (oT (getH (M t) k s)), .bool (getH (M t) k s).isSome]) ∧ Kept w c most (upd M t (getL (M t) k s)) (setC C t (getC (M t) k s (C t))) F w' := by
  obtain ⟨n, mm, mc, f, g, nc, G, h⟩ := h
  have fin : ∀ {M' : ByteArray → Option (List Ent1)} {C' : ByteArray → Int × Int} {w' : World}, CGetPost w c mm mc most M' C' F w' → Kept w c most M' C' F w' := by
    rintro M' C' w' ⟨⟨f', n', g', nc', G', F', hO, hsub⟩, hF⟩
    exact ⟨⟨F', ⟨n', mm, mc, f', g', nc', G', hO⟩, hsub⟩, hF⟩
  rcases h.cases t with ⟨h1, h2⟩ | ⟨l, L, h1, h2, h3, h4⟩
  · have eH : getH (M t) k s = none := by rw [h2]; rfl
    have eL : getL (M t) k s = M t := by rw [h2]; rfl
    have eC : getC (M t) k s (C t) = ((C t).1, wrap64 ((C t).2 + 1)) := by unfold getC; rw [eH]; rfl
    rw [eH, eL, eC, upd_self]
    refine (cget_A h t k s h1).mono ?_
    rintro e w' ⟨rfl, ⟨g', nc', hO⟩, hF⟩
    exact ⟨rfl, ⟨F, ⟨n, mm, mc, f, g', nc', G, hO⟩, fun i hi => .inl hi⟩, hF.mono (fun i hi => .inl (by rw [List.mem_singleton.1 hi]; exact h.nF))⟩
  · cases ho : findE L k with
    | none =>
      have eH : getH (M t) k s = none := by rw [h2]; unfold getH; dsimp only; rw [ho]
      have eL : getL (M t) k s = some L := by rw [h2]; unfold getL; dsimp only; rw [ho]
      have eC : getC (M t) k s (C t) = ((C t).1, wrap64 ((C t).2 + 1)) := by unfold getC; rw [eH]; rfl
      have eT : touchE L k = L := by unfold touchE; rw [ho]
      rw [eH, eL, eC]
      refine (cget_B h t k s l L h1 h3 h4 ho).mono ?_
      rintro e w' ⟨rfl, hP⟩
      rw [eT] at hP
      exact ⟨rfl, fin hP⟩
    | some e0 =>
      by_cases hs : e0.s = s
      · have eH : getH (M t) k s = some e0 := by rw [h2]; unfold getH; dsimp only; rw [ho]; dsimp only; rw [if_pos hs]
        have eL : getL (M t) k s = some (touchE L k) := by rw [h2]; unfold getL; dsimp only; rw [ho]; dsimp only; rw [if_pos hs]
        have eC : getC (M t) k s (C t) = (wrap64 ((C t).1 + 1), (C t).2) := by unfold getC; rw [eH]; rfl
        rw [eH, eL, eC]
        refine (cget_D h t k s l L h1 h3 h4 e0 ho (by rw [hs])).mono ?_
        rintro e w' ⟨rfl, hP⟩
        exact ⟨rfl, fin hP⟩
      · have hs' : ¬ e0.s.toList = s.toList := fun e => hs (toList_inj e)
        have eH : getH (M t) k s = none := by rw [h2]; unfold getH; dsimp only; rw [ho]; dsimp only; rw [if_neg hs]
        have eC : getC (M t) k s (C t) = ((C t).1, wrap64 ((C t).2 + 1)) := by unfold getC; rw [eH]; rfl
        by_cases hz : (delE (touchE L k) k).length = 0
        · have eL : getL (M t) k s = none := by rw [h2]; unfold getL; dsimp only; rw [ho]; dsimp only; rw [if_neg hs, if_pos hz]
          rw [eH, eL, eC]
          refine (cget_C0 h t k s l L h1 h3 h4 e0 ho hs' hz).mono ?_
          rintro e w' ⟨rfl, hP⟩
          refine ⟨rfl, fin ?_⟩
          have : upd M t none = dropM (fun u => if u = t then some (delE (touchE L k) k) else if u = t then some (touchE L k) else M u) t := by
            funext u; unfold upd dropM
            by_cases hu : u = t
            · simp [hu]
            · simp [hu]
          rw [this]; exact hP
        · have eL : getL (M t) k s = some (delE (touchE L k) k) := by rw [h2]; unfold getL; dsimp only; rw [ho]; dsimp only; rw [if_neg hs, if_neg hz]
          rw [eH, eL, eC]
          refine (cget_C1 h t k s l L h1 h3 h4 e0 ho hs' hz).mono ?_
          rintro e w' ⟨rfl, hP⟩
          refine ⟨rfl, fin ?_⟩
          have : upd M t (some (delE (touchE L k) k)) = (fun u => if u = t then some (delE (touchE L k) k) else if u = t then some (touchE L k) else M u) := by
            funext u; unfold upd
            by_cases hu : u = t
            · simp [hu]
            · simp [hu]
          rw [this]; exact hP
end
end Go.Proofs.Ytoichcjlfpijeaa
