/- What stands in braces, piece by piece, as the loop over it meets it (plain). -/
import Derived.Test.YtdhmloejgoacaaaGreatDoorMw29
import Derived.Test.YtdhmloejgoacaaaGreatDoorMw21
import Derived.Test.YtdhmloejgoacaaaGreatDoorTqQRead
set_option linter.unusedVariables false
set_option linter.unusedSimpArgs false
namespace Go.Proofs.YtdhmloejgoacaaaGreatDoor
open Go.RowKit Go.Bl Go.Lq Go.Tq

theorem matchL_suf (m : Bs) : restOf (matchL m) <:+ m := by
  unfold matchL
  cases h : takeL [123] (skipL m) with
  | none => exact skipL_suf m
  | some l1 =>
    have h1 : l1 <:+ m := (takeL_suf h).trans (skipL_suf m)
    simp only
    cases h2 : takeL [125] (skipL l1) with
    | some r => exact (takeL_suf h2).trans ((skipL_suf l1).trans h1)
    | none => exact (matchLoop_suf _ _ _).trans ((skipL_suf l1).trans h1)
theorem pm_bad {m t z r0 : Bs} (hm : matchL m = .bad r0) (he : m = t ++ z) (hl : t.length ≤ 65536) : ∃ r, pmP t = .form r ∧ r <:+ t := by
  have hs := matchL_suf t
  unfold pmP
  rw [if_neg (by omega)]
  cases h : matchL t with
  | bad r =>
    rw [h] at hs
    exact ⟨r, rfl, hs⟩
  | ok ms r =>
    exfalso
    obtain ⟨a, ha, hx, _⟩ := match_local h
    have := hx (r ++ z)
    rw [← List.append_assoc, ← ha, ← he, hm] at this
    cases this
theorem pm_good {m r : Bs} {ms : List Mt} (hm : matchL m = .ok ms r) (hl : m.length ≤ 65536) : ∃ a, m = a ++ r ∧ a ≠ [] ∧ cutGo 125 false m = some r ∧ pmP a = if rightM Lib.validD ms ≠ 0 then .wrong (rightM Lib.validD ms) else .ok ms := by
  obtain ⟨a, ha, hx, hc⟩ := match_local hm
  obtain ⟨a2, ha2, hne⟩ := cut_prefix 125 _ false _ r (Nat.le_refl _) hc
  have : a = a2 := List.append_cancel_right (ha.symm.trans ha2)
  subst this
  refine ⟨a, ha, hne, hc, ?_⟩
  have h0 := hx []
  rw [List.append_nil] at h0
  unfold pmP
  rw [if_neg (by rw [ha, List.length_append] at hl; omega), h0]
  simp only
  rw [if_neg (by simp [skipL])]
theorem piece_blank {b p : Bs} {m : Mt} (hb : Blanks b) (h : Piece p m) : Piece (b ++ p) m := by
  obtain ⟨⟨b0, b1, b2, q, hb0, rest1, rest2, e, more⟩, hh⟩ := h
  exact ⟨⟨b ++ b0, b1, b2, q, fun c hc => by
    rcases List.mem_append.1 hc with h | h
    · exact hb c h
    · exact hb0 c h, rest1, rest2, by rw [e]; simp, more⟩, hh⟩
theorem inner_blank {b x : Bs} {ms : List Mt} (hb : Blanks b) (h : InnerR x ms) : InnerR (b ++ x) ms := by
  cases h with
  | last hP hbl => rw [← List.append_assoc]; exact .last (piece_blank hb hP) hbl
  | more hP hbl hr => rw [← List.append_assoc]; exact .more (piece_blank hb hP) hbl hr
theorem pm_inner {a r : Bs} {l : Bs} {ms : List Mt} (hm : matchL (123 :: l) = .ok ms r) (ha : 123 :: l = a ++ r) (hne : ms ≠ []) : ∃ x, a = 123 :: (x ++ [125]) ∧ InnerR x ms := by
  obtain ⟨b, inner, h1, h2, h3⟩ := match_inner hm
  rcases h3 with ⟨_, h⟩ | h
  · exact absurd h hne
  · refine ⟨b ++ inner, ?_, inner_blank h2 h⟩
    apply List.append_cancel_right (bs := r)
    rw [← ha, h1]
    simp
/-- What TrimLeft, TrimPrefix, TrimLeft leave. -/
def nextL (z : Bs) : Bs := skipL (Lib.trimPrefix (skipL z) [44])
theorem skip_all {b : Bs} (h : Blanks b) : skipL b = [] := by
  have := skip_app h []
  rw [List.append_nil] at this
  rw [this]; rfl
/-- One piece and what follows. -/
structure Front (x : Bs) (m : Mt) (k n : Nat) (z : Bs) : Prop where
  eq : x = x.take n ++ z
  len : n ≤ x.length ∧ k ≤ n ∧ z.length + n = x.length ∧ 0 < n
  piece : Piece (x.take n) m
  quo : Lib.indexByte x 34 = (k : Int)
  cut : cutGo 34 false (x.drop k) = some z
theorem front_of {p z : Bs} {m : Mt} (h : Piece p m) : ∃ k, Front (p ++ z) m k p.length z := by
  have hP := h
  obtain ⟨⟨b0, b1, b2, q, hb0, hb1, hb2, e, hq, k1, k2, o⟩, hh⟩ := h
  have hsg : ∀ c ∈ signP m.op, c ≠ 34 := by
    rcases o with o | o | o | o <;> rw [o] <;> decide
  have hk : ∀ c ∈ m.key, isTail c = true := fun c hc => List.all_eq_true.1 k2 c hc
  have hA : ∀ c ∈ b0 ++ (m.key ++ (b1 ++ (signP m.op ++ b2))), c ≠ 34 := fun c hc => by
    simp only [List.mem_append] at hc
    rcases hc with hc | hc | hc | hc | hc
    · exact (blank_sign c (hb0 c hc)).2
    · exact (tail_not c (hk c hc)).2.2
    · exact (blank_sign c (hb1 c hc)).2
    · exact hsg c hc
    · exact (blank_sign c (hb2 c hc)).2
  have e2 : p ++ z = (b0 ++ (m.key ++ (b1 ++ (signP m.op ++ b2)))) ++ 34 :: (q ++ z) := by rw [e]; simp
  have e3 : p.length = (b0 ++ (m.key ++ (b1 ++ (signP m.op ++ b2)))).length + (q.length + 1) := by rw [e]; simp; omega
  refine ⟨(b0 ++ (m.key ++ (b1 ++ (signP m.op ++ b2)))).length, ⟨by rw [List.take_left], ⟨by simp, by omega, by simp; omega, by omega⟩, by rw [List.take_left]; exact hP, ?_, ?_⟩⟩
  · rw [e2]; exact indexByte_list _ _ hA
  · rw [e2, List.drop_left, cut_f, if_pos rfl, cut_quoted 34 _ [] _ _ z (Nat.le_refl _) (hq z), if_pos rfl]
theorem inner_front {x : Bs} {ms : List Mt} (h : InnerR x ms) : ∃ m ms' k n z, ms = m :: ms' ∧ Front x m k n z ∧ (ms' = [] ∧ nextL z = [] ∨ InnerR (nextL z) ms') := by
  cases h with
  | @last p bl m hP hbl =>
    obtain ⟨k, hf⟩ := front_of (z := bl) hP
    refine ⟨m, [], k, _, bl, rfl, hf, .inl ⟨rfl, ?_⟩⟩
    unfold nextL
    rw [skip_all hbl]
    rfl
  | @more p bl rest m ms' hP hbl hr =>
    obtain ⟨k, hf⟩ := front_of (z := bl ++ 44 :: rest) hP
    refine ⟨m, ms', k, _, bl ++ 44 :: rest, rfl, hf, .inr ?_⟩
    have : nextL (bl ++ 44 :: rest) = skipL rest := by
      unfold nextL
      rw [skip_app hbl, skipL_of (by decide)]
      rfl
    rw [this]
    exact inner_skip hr
theorem inner_ne {ms : List Mt} (h : InnerR [] ms) : False := by
  obtain ⟨m, ms', k, n, z, _, hf, _⟩ := inner_front h
  have := hf.len
  simp at this
  omega
theorem next_le (z : Bs) : (nextL z).length ≤ z.length := by
  unfold nextL
  have h1 := skipL_le (Lib.trimPrefix (skipL z) [44])
  have h2 : (Lib.trimPrefix (skipL z) [44]).length ≤ (skipL z).length := by
    unfold Lib.trimPrefix
    split <;> simp
  have h3 := skipL_le z
  omega
/-- One piece between braces of its own. -/
theorem pm_piece {p : Bs} {m : Mt} (h : Piece p m) (hl : p.length ≤ 65000) : pmP (123 :: (p ++ [125])) = if rightM Lib.validD [m] ≠ 0 then .wrong (rightM Lib.validD [m]) else .ok [m] := by
  unfold pmP
  rw [if_neg (by simp; omega), piece_match h]
  simp only
  rw [if_neg (by simp [skipL])]
theorem trimLeftBl (X : ByteArray) (w : World) : Calls Tryz.prog 99 #[.string X, .string ⟨#[32, 9]⟩] w fun e w' => e = .returned (.string ⟨(skipL X.data.toList).toArray⟩) ∧ Fr [] w w' := by
  refine (Any.strings_TrimLeft_laid Tryz.lays161 (by kernel_rfl) X ⟨#[32, 9]⟩ w (by decide) (ascii_of_all (by decide))).mono ?_
  rintro e w' ⟨rfl, hB⟩
  refine ⟨?_, fr_newR hB []⟩
  have e : (fun x => ([32, 9] : Bs).contains x) = isBlank := funext blank_in
  show Ending.returned (.string ⟨(X.data.toList.dropWhile (([32, 9] : Bs).contains ·)).toArray⟩) = _
  rw [e]
  rfl
end Go.Proofs.YtdhmloejgoacaaaGreatDoor
namespace Go.Proofs.YtdhmloejgoacaaaGreatDoor
open Go.RowKit Go.Bl Go.Lq Go.Tq

def signCells : Array Value := #[.string ⟨#[61]⟩, .string ⟨#[33, 61]⟩, .string ⟨#[61, 126]⟩, .string ⟨#[33, 126]⟩]
def RawRel (m : Mt) (A T V : Nat) (w : World) (v : Value) (wr : World) : Prop :=
  ∃ j : Nat, v = .int .i64 (j : Int) ∧ j ≤ 4 ∧ Fr [] w wr ∧ wr.heap[T]? = some (.cells #[.int .i64 (if m.op ≤ (j : Int) then m.op else 0), .string ⟨m.key.toArray⟩, .string ⟨m.val.toArray⟩] 74 (0, 0)) ∧
    wr.heap[V]? = some (.cells signCells 9 (0, 0)) ∧ wr.heap[A]? = some (.cells #[.int .i64 0, .string ⟨#[]⟩, .string ⟨#[]⟩] 74 (0, 0))
theorem bs_of {s : ByteArray} {l : Bs} (h : s.data.toList = l) : s = ⟨l.toArray⟩ := by apply bs_ext; simp [h]
theorem trimBl (X : ByteArray) (hX : X.size ≤ 65536) (w : World) : Calls Tryz.prog 232 #[.string X, .string ⟨#[32, 9]⟩] w fun e w' => e = .returned (.string ⟨(Lib.trimS X.data.toList [32, 9]).toArray⟩) ∧ Fr [] w w' := by
  refine (Any.strings_Trim_laid Tryz.lays160 (by kernel_rfl) X ⟨#[32, 9]⟩ w (by omega) (by decide) (ascii_of_all (by decide))).mono ?_
  rintro e w' ⟨rfl, hB⟩
  exact ⟨rfl, fr_newR hB []⟩
set_option maxRecDepth 100000 in
set_option maxHeartbeats 2000000 in
theorem raw_any (s : ByteArray) (m : Mt) (hs : s.size ≤ 1026) (hP : Piece s.data.toList m) (w : World) :
    Calls Tryz.prog 241 #[.string s] w fun e w' => e = .returned (.agg #[.int .i64 m.op, .string ⟨m.key.toArray⟩, .string ⟨m.val.toArray⟩]) ∧ Fr [] w w' := by
  obtain ⟨S, i, k, hR, hSl⟩ := raw_of hP
  have hSz : S.length ≤ 1026 := by rw [bytes_len] at hSl; omega
  obtain ⟨hik, hkS⟩ := hR.le
  have HR := Lib.hid hR
  clear hR hP
  have hF0 : Fr [] w (w.alloc (.cells #[.int .i64 0, .string ⟨#[]⟩, .string ⟨#[]⟩] 74)) := (Fr.refl _ _).alloc _
  have hA0 := Go.Bl.heap_alloc w (.cells #[.int .i64 0, .string ⟨#[]⟩, .string ⟨#[]⟩] 74)
  obtain ⟨A, hA⟩ : ∃ A, w.heap.size = A := ⟨_, rfl⟩
  have hAe : Hid (w.heap.size = A) := Lib.hid hA
  rw [hA] at hA0
  go_enter Tryz.func241, Tryz.ntmps241
  go_upto_region 1 with fail
  obtain ⟨w0, hw0⟩ : ∃ w0, w.alloc (.cells #[.int .i64 0, .string ⟨#[]⟩, .string ⟨#[]⟩] 74) = w0 := ⟨_, rfl⟩
  rw [hw0] at hF0 hA0 ⊢
  (try rw [hA])
  clear hw0
  go_wp2_with fail
  refine (trimBl s (by omega) _).mono ?_
  rintro e w1 ⟨rfl, hF1⟩
  rw [HR.out.trim]
  have hA1 := hF1.obj hA0 (by simp)
  have hFa := hF0.trans hF1
  clear hF0 hF1 hA0
  obtain ⟨X, hX⟩ : ∃ X : ByteArray, (⟨S.toArray⟩ : ByteArray) = X := ⟨_, rfl⟩
  have hXl : X.data.toList = S := by rw [← hX]
  have hXs : X.size = S.length := by rw [← bytes_len, hXl]
  rw [hX]
  clear hX
  have hidx : ∀ W, Calls Tryz.prog 242 #[.string X, .string ⟨#[61, 33, 32, 9]⟩] W fun e w' => e = .returned (.int .i64 (i : Int)) ∧ Fr [] W w' := fun W => by
    obtain ⟨x, rest, h1, h2⟩ := HR.out.key
    have := indexAny_at X m.key x rest (by omega) (by rw [hXl]; exact h1) HR.out.ascii h2 W
    rw [← HR.out.len] at this
    exact this
  have hib : ∀ W, Calls Tryz.prog 97 #[.string X, .int .u8 34] W fun e w' => e = .returned (.int .i64 (k : Int)) ∧ w' = W := fun W => by
    have := Tryz.strings_IndexByte X 34 W
    rw [show (34 : Int).toNat.toUInt8 = 34 from rfl, hXl, HR.out.quo] at this
    exact this
  obtain ⟨U, hU⟩ : ∃ U : ByteArray, X.extract k X.size = U := ⟨_, rfl⟩
  have hUl : U.data.toList = S.drop k := by
    rw [← hU, extract_list, hXl]
    exact List.take_of_length_le (by simp; omega)
  obtain ⟨tv, te, hunq, hcase⟩ := unq_val U (by rw [← bytes_len, hUl]; simp; omega)
  obtain ⟨rfl, rfl⟩ : tv = ⟨m.val.toArray⟩ ∧ te = 0 := by
    rw [hUl, HR.out.val] at hcase
    rcases hcase with ⟨t, h1, h2, h3⟩ | ⟨h1, _⟩
    · cases h1; exact ⟨h2, h3⟩
    · cases h1
  clear hcase
  have hXi : X.extract 0 i = ⟨m.key.toArray⟩ := by
    apply bs_of
    rw [extract_list, hXl, List.drop_zero, Nat.sub_zero, HR.out.take]
  obtain ⟨Y, hY⟩ : ∃ Y : ByteArray, X.extract i k = Y := ⟨_, rfl⟩
  have hYl : Lib.trimS Y.data.toList [32, 9] = signP m.op := by
    rw [← hY, extract_list, hXl, HR.out.sign]
  have hYs : Y.size ≤ 65536 := by rw [← hY]; simp; omega
  have htrim : ∀ W, Calls Tryz.prog 232 #[.string Y, .string ⟨#[32, 9]⟩] W fun e w' => e = .returned (.string ⟨(signP m.op).toArray⟩) ∧ Fr [] W w' := fun W => by
    have := trimBl Y hYs W
    rw [hYl] at this
    exact this
  have g1 : i ≤ X.size := by omega
  have g2 : k ≤ X.size := by omega
  have HXL := Lib.hid (And.intro hXl hUl)
  have hX65 : X.size ≤ 1026 := by omega
  clear hXl hUl hYl hXs
  go_wp2_with fail
  refine (hidx _).mono ?_
  rintro e w2 ⟨rfl, hF2⟩
  go_wp2_with fail
  refine (hib _).mono ?_
  rintro e w2' ⟨rfl, rfl⟩
  go_wp2_with fail
  (try rw [hU])
  refine (hunq _).mono ?_
  rintro e w3 ⟨rfl, hF3⟩
  clear hidx hib hunq
  have hA3 := hF3.obj (hF2.obj hA1 (by simp)) (by simp)
  have hFb := (hFa.trans hF2).trans hF3
  clear hA1 hFa hF2 hF3
  have hT0 := Go.Bl.heap_alloc w3 (.cells #[.int .i64 0, .string ⟨m.key.toArray⟩, .string ⟨m.val.toArray⟩] 74)
  have hA4 := (Fr.refl [] w3).alloc (.cells #[.int .i64 0, .string ⟨m.key.toArray⟩, .string ⟨m.val.toArray⟩] 74) |>.obj hA3 (by simp)
  have hFc := hFb.alloc (.cells #[.int .i64 0, .string ⟨m.key.toArray⟩, .string ⟨m.val.toArray⟩] 74)
  obtain ⟨T, hT⟩ : ∃ T, w3.heap.size = T := ⟨_, rfl⟩
  have hTw : w.heap.size ≤ T := by rw [← hT]; exact hFb.size
  have hAT : A < T := by rw [← hT]; exact lt_of_obj hA3
  rw [hT] at hT0
  go_upto_region 6 with fail
  obtain ⟨w4, hw4⟩ : ∃ w4, w3.alloc (.cells #[.int .i64 0, .string ⟨m.key.toArray⟩, .string ⟨m.val.toArray⟩] 74) = w4 := ⟨_, rfl⟩
  rw [hw4] at hT0 hA4 hFc ⊢
  (try rw [hT])
  clear hw4 hT hA3 hFb hU hXi
  have hV0 := Go.Bl.heap_alloc w4 (.cells signCells 9)
  have hA5 := (Fr.refl [] w4).alloc (.cells signCells 9) |>.obj hA4 (by simp)
  have hT5 := (Fr.refl [] w4).alloc (.cells signCells 9) |>.obj hT0 (by simp)
  have hFd := hFc.alloc (.cells signCells 9)
  obtain ⟨V, hV⟩ : ∃ V, w4.heap.size = V := ⟨_, rfl⟩
  rw [hV] at hV0
  have hTA : A ≠ T := by omega
  have hVT : V ≠ T := by
    have := lt_of_obj hT0
    omega
  have hAV : A ≠ V := by
    have := lt_of_obj hA4
    omega
  have hsg0 : (if m.op ≤ ((0 : Nat) : Int) then m.op else 0) = 0 := by
    rcases HR.out.op with h | h | h | h <;> rw [h] <;> rfl
  have H0 : RawRel m A T V w (.int .i64 0) (w4.alloc (.cells signCells 9)) := ⟨0, rfl, by omega, hFd, by rw [hsg0]; exact hT5, hV0, hA5⟩
  clear hT0 hA4 hFc hT5 hA5 hFd hV0
  go_wp2_with fail
  go_loopw [30] (fun v wr => RawRel m A T V w v wr) (fun v _ => 4 - (intOf v).toNat)
  case atStart => exact H0
  case round =>
    clear H0
    obtain ⟨j, rfl, hj, hF, hT, hV2, hAc⟩ := hrel
    have d0 := cell_of hV2 0
    have d1 := cell_of hV2 1
    have d2 := cell_of hV2 2
    have d3 := cell_of hV2 3
    unfold signCells at d0 d1 d2 d3
    simp only [List.getElem?_toArray, List.getElem?_cons_zero, List.getElem?_cons_succ] at d0 d1 d2 d3
    have hic : j = 0 ∨ j = 1 ∨ j = 2 ∨ j = 3 ∨ j = 4 := by omega
    rcases hic with rfl | rfl | rfl | rfl | rfl
    · have htr := htrim wr
      obtain ⟨e0, he0⟩ : ∃ e0, (signP m.op == [61]) = e0 := ⟨_, rfl⟩
      have hop : (e0 = true ∧ m.op = 1) ∨ (e0 = false ∧ m.op ≠ 1) := by
        rw [← he0]
        rcases HR.out.op with h | h | h | h <;> rw [h] <;> decide
      go_wp2_with fail
      refine htr.mono ?_
      rintro e w6 ⟨rfl, hF6⟩
      have hT6 := hF6.obj hT (by simp)
      have hV6 := hF6.obj hV2 (by simp)
      have hA6 := hF6.obj hAc (by simp)
      have hFw := hF.trans hF6
      have c0 := cell_of hT6 0
      have z0 := frozen_of hT6 0
      simp only [List.getElem?_toArray, List.getElem?_cons_zero, List.getElem?_cons_succ] at c0
      rcases hop with ⟨rfl, ho⟩ | ⟨rfl, ho⟩
      · go_wp2_with fail
        refine ⟨⟨1, rfl, by omega, hFw.setCell (.inr hTw) _, ?_, by rw [heap_setCell_ne hVT]; exact hV6, by rw [heap_setCell_ne hTA]; exact hA6⟩, by simp [intOf]⟩
        have e1 : (if m.op ≤ ((1 : Nat) : Int) then m.op else 0) = 1 := by rw [ho]; rfl
        rw [heap_setCell hT6, e1]
        rfl
      · have hst : (if m.op ≤ ((0 : Nat) : Int) then m.op else 0) = (if m.op ≤ ((1 : Nat) : Int) then m.op else 0) := by
          rcases HR.out.op with h | h | h | h <;> rw [h] at ho ⊢ <;> first | rfl | exact absurd rfl ho
        rw [hst] at hT6
        clear c0 z0 hst
        go_wp2_with fail
        exact ⟨⟨1, rfl, by omega, hFw, hT6, hV6, hA6⟩, by simp [intOf]⟩
    · have htr := htrim wr
      obtain ⟨e0, he0⟩ : ∃ e0, (signP m.op == [33, 61]) = e0 := ⟨_, rfl⟩
      have hop : (e0 = true ∧ m.op = 2) ∨ (e0 = false ∧ m.op ≠ 2) := by
        rw [← he0]
        rcases HR.out.op with h | h | h | h <;> rw [h] <;> decide
      go_wp2_with fail
      refine htr.mono ?_
      rintro e w6 ⟨rfl, hF6⟩
      have hT6 := hF6.obj hT (by simp)
      have hV6 := hF6.obj hV2 (by simp)
      have hA6 := hF6.obj hAc (by simp)
      have hFw := hF.trans hF6
      have c0 := cell_of hT6 0
      have z0 := frozen_of hT6 0
      simp only [List.getElem?_toArray, List.getElem?_cons_zero, List.getElem?_cons_succ] at c0
      rcases hop with ⟨rfl, ho⟩ | ⟨rfl, ho⟩
      · go_wp2_with fail
        refine ⟨⟨2, rfl, by omega, hFw.setCell (.inr hTw) _, ?_, by rw [heap_setCell_ne hVT]; exact hV6, by rw [heap_setCell_ne hTA]; exact hA6⟩, by simp [intOf]⟩
        have e1 : (if m.op ≤ ((2 : Nat) : Int) then m.op else 0) = 2 := by rw [ho]; rfl
        rw [heap_setCell hT6, e1]
        rfl
      · have hst : (if m.op ≤ ((1 : Nat) : Int) then m.op else 0) = (if m.op ≤ ((2 : Nat) : Int) then m.op else 0) := by
          rcases HR.out.op with h | h | h | h <;> rw [h] at ho ⊢ <;> first | rfl | exact absurd rfl ho
        rw [hst] at hT6
        clear c0 z0 hst
        go_wp2_with fail
        exact ⟨⟨2, rfl, by omega, hFw, hT6, hV6, hA6⟩, by simp [intOf]⟩
    · have htr := htrim wr
      obtain ⟨e0, he0⟩ : ∃ e0, (signP m.op == [61, 126]) = e0 := ⟨_, rfl⟩
      have hop : (e0 = true ∧ m.op = 3) ∨ (e0 = false ∧ m.op ≠ 3) := by
        rw [← he0]
        rcases HR.out.op with h | h | h | h <;> rw [h] <;> decide
      go_wp2_with fail
      refine htr.mono ?_
      rintro e w6 ⟨rfl, hF6⟩
      have hT6 := hF6.obj hT (by simp)
      have hV6 := hF6.obj hV2 (by simp)
      have hA6 := hF6.obj hAc (by simp)
      have hFw := hF.trans hF6
      have c0 := cell_of hT6 0
      have z0 := frozen_of hT6 0
      simp only [List.getElem?_toArray, List.getElem?_cons_zero, List.getElem?_cons_succ] at c0
      rcases hop with ⟨rfl, ho⟩ | ⟨rfl, ho⟩
      · go_wp2_with fail
        refine ⟨⟨3, rfl, by omega, hFw.setCell (.inr hTw) _, ?_, by rw [heap_setCell_ne hVT]; exact hV6, by rw [heap_setCell_ne hTA]; exact hA6⟩, by simp [intOf]⟩
        have e1 : (if m.op ≤ ((3 : Nat) : Int) then m.op else 0) = 3 := by rw [ho]; rfl
        rw [heap_setCell hT6, e1]
        rfl
      · have hst : (if m.op ≤ ((2 : Nat) : Int) then m.op else 0) = (if m.op ≤ ((3 : Nat) : Int) then m.op else 0) := by
          rcases HR.out.op with h | h | h | h <;> rw [h] at ho ⊢ <;> first | rfl | exact absurd rfl ho
        rw [hst] at hT6
        clear c0 z0 hst
        go_wp2_with fail
        exact ⟨⟨3, rfl, by omega, hFw, hT6, hV6, hA6⟩, by simp [intOf]⟩
    · have htr := htrim wr
      obtain ⟨e0, he0⟩ : ∃ e0, (signP m.op == [33, 126]) = e0 := ⟨_, rfl⟩
      have hop : (e0 = true ∧ m.op = 4) ∨ (e0 = false ∧ m.op ≠ 4) := by
        rw [← he0]
        rcases HR.out.op with h | h | h | h <;> rw [h] <;> decide
      go_wp2_with fail
      refine htr.mono ?_
      rintro e w6 ⟨rfl, hF6⟩
      have hT6 := hF6.obj hT (by simp)
      have hV6 := hF6.obj hV2 (by simp)
      have hA6 := hF6.obj hAc (by simp)
      have hFw := hF.trans hF6
      have c0 := cell_of hT6 0
      have z0 := frozen_of hT6 0
      simp only [List.getElem?_toArray, List.getElem?_cons_zero, List.getElem?_cons_succ] at c0
      rcases hop with ⟨rfl, ho⟩ | ⟨rfl, ho⟩
      · go_wp2_with fail
        refine ⟨⟨4, rfl, by omega, hFw.setCell (.inr hTw) _, ?_, by rw [heap_setCell_ne hVT]; exact hV6, by rw [heap_setCell_ne hTA]; exact hA6⟩, by simp [intOf]⟩
        have e1 : (if m.op ≤ ((4 : Nat) : Int) then m.op else 0) = 4 := by rw [ho]; rfl
        rw [heap_setCell hT6, e1]
        rfl
      · have hst : (if m.op ≤ ((3 : Nat) : Int) then m.op else 0) = (if m.op ≤ ((4 : Nat) : Int) then m.op else 0) := by
          rcases HR.out.op with h | h | h | h <;> rw [h] at ho ⊢ <;> first | rfl | exact absurd rfl ho
        rw [hst] at hT6
        clear c0 z0 hst
        go_wp2_with fail
        exact ⟨⟨4, rfl, by omega, hFw, hT6, hV6, hA6⟩, by simp [intOf]⟩
    · rw [if_pos (by rcases HR.out.op with h | h | h | h <;> rw [h] <;> decide)] at hT
      have c0 := cell_of hT 0
      have c1 := cell_of hT 1
      have c2 := cell_of hT 2
      have b0 := cell_of hAc 0
      have b1 := cell_of hAc 1
      have b2 := cell_of hAc 2
      have z0 := frozen_of hAc 0
      have z1 := frozen_of hAc 1
      have z2 := frozen_of hAc 2
      simp only [List.getElem?_toArray, List.getElem?_cons_zero, List.getElem?_cons_succ] at c0 c1 c2 b0 b1 b2
      have HF := Lib.hid hF
      clear hF
      go_wp2_with fail
      obtain ⟨w9, hw9⟩ : ∃ w9, ((wr.setCell ⟨A, 0, none⟩ (.int .i64 m.op)).setCell ⟨A, 1, none⟩ (.string ⟨m.key.toArray⟩)).setCell ⟨A, 2, none⟩ (.string ⟨m.val.toArray⟩) = w9 := ⟨_, rfl⟩
      have hA9 : w9.heap[A]? = some (.cells #[.int .i64 m.op, .string ⟨m.key.toArray⟩, .string ⟨m.val.toArray⟩] 74 (0, 0)) := by
        rw [← hw9, heap_setCell (heap_setCell (heap_setCell hAc 0 _) 1 _) 2 _]
        rfl
      have hF9 : Fr [] w w9 := by
        rw [← hw9]
        exact ((HF.out.setCell (.inr (Nat.le_of_eq hAe.out)) _).setCell (.inr (Nat.le_of_eq hAe.out)) _).setCell (.inr (Nat.le_of_eq hAe.out)) _
      rw [hw9]
      clear b0 b1 b2 z0 z1 z2 c0 c1 c2 d0 d1 d2 d3
      have b0 := cell_of hA9 0
      have b1 := cell_of hA9 1
      have b2 := cell_of hA9 2
      simp only [List.getElem?_toArray, List.getElem?_cons_zero, List.getElem?_cons_succ] at b0 b1 b2
      refine bodyPost_ret (v := .agg #[.int .i64 m.op, .string ⟨m.key.toArray⟩, .string ⟨m.val.toArray⟩]) ?_ rfl ⟨rfl, hF9⟩
      simp [results, Tryz.results241, go_sem, b0, b1, b2]
end Go.Proofs.YtdhmloejgoacaaaGreatDoor
