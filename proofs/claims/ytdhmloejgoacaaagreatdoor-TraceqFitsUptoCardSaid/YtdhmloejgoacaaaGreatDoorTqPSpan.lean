/- A span, back. -/
import Derived.Test.YtdhmloejgoacaaaGreatDoorMw24
import Derived.Test.YtdhmloejgoacaaaGreatDoorMw26
import Derived.Test.YtdhmloejgoacaaaGreatDoorShelfVal2
import Derived.Shelf.Strings.SlTrimAscii
import Derived.Shelf.Strconv.ParseIntPublic10
set_option linter.unusedVariables false
set_option linter.unusedSimpArgs false
namespace Go.Proofs.YtdhmloejgoacaaaGreatDoor
open Go.RowKit Go.Bl Go.Lq Go.Tq

def unitTail (n : Int) : List (Bs × Int) → Bs → Int × Int
  | [], _ => (0, 3)
  | (nm, u) :: r, s => if nm = s then (if maxTime / u < n then (0, 1) else (n * u, 0)) else unitTail n r s
/-- What ParseSpan answers: the number and the error. -/
def psP (s : Bs) : Int × Int :=
  if trimR s = [] ∨ 9 < (trimR s).length ∨ (trimR s).all isDigit = false ∨ (trimR s).head? = some 48 then (0, 3) else
  unitTail (numOf (trimR s)) units (s.drop (trimR s).length)
theorem unitTail_go (n : Int) (s : Bs) : ∀ l : List (Bs × Int), unitTail n l s = match unitGo l s with
    | none => (0, 3)
    | some u => if maxTime / u < n then (0, 1) else (n * u, 0)
  | [] => rfl
  | (nm, u) :: r => by
    unfold unitTail unitGo
    by_cases h : nm = s
    · rw [if_pos h, if_pos h]
    · rw [if_neg h, if_neg h]
      exact unitTail_go n s r
theorem ps_some {s : Bs} {n : Int} (h : parseSpanP s = some n) : psP s = (n, 0) := by
  unfold parseSpanP at h
  unfold psP
  split at h
  · cases h
  · rename_i hc
    rw [if_neg hc, unitTail_go]
    cases hu : unitGo units (s.drop (trimR s).length) with
    | none => rw [hu] at h; cases h
    | some u =>
      rw [hu] at h
      simp only at h ⊢
      split at h
      · cases h
      · rename_i h2
        rw [if_neg h2]
        cases h
        rfl
theorem ps_none {s : Bs} (h : parseSpanP s = none) : (psP s).1 = 0 ∧ ((psP s).2 = 1 ∨ (psP s).2 = 3) := by
  unfold parseSpanP at h
  unfold psP
  split at h
  · rename_i hc
    rw [if_pos hc]
    exact ⟨rfl, .inr rfl⟩
  · rename_i hc
    rw [if_neg hc, unitTail_go]
    cases hu : unitGo units (s.drop (trimR s).length) with
    | none => exact ⟨rfl, .inr rfl⟩
    | some u =>
      rw [hu] at h
      simp only at h ⊢
      split at h
      · rename_i h2
        rw [if_pos h2]
        exact ⟨rfl, .inl rfl⟩
      · cases h
theorem trimR_eq (l : Bs) : Lib.trimRightS l [104, 109, 115, 117, 110] = trimR l := by
  unfold Lib.trimRightS trimR
  congr 2
  funext c
  simp [isUnitC, Bool.or_assoc, Bool.beq_eq_decide_eq]
theorem dw_nil (p : UInt8 → Bool) : ∀ l : Bs, l.dropWhile p = [] ↔ ∀ x ∈ l, p x = true
  | [] => by simp
  | c :: m => by
    rw [List.dropWhile_cons]
    by_cases h : p c = true
    · rw [if_pos h, dw_nil p m]
      simp [h]
    · rw [if_neg h]
      simp [h]
theorem trimS_nil (l cs : Bs) : Lib.trimS l cs = [] ↔ ∀ x ∈ l, cs.contains x = true := by
  unfold Lib.trimS Lib.trimLeftS Lib.trimRightS
  rw [dw_nil]
  constructor
  · intro h
    have h2 : l.reverse.dropWhile (cs.contains ·) = [] := by
      cases hd : l.reverse.dropWhile (cs.contains ·) with
      | nil => rfl
      | cons c m =>
        exfalso
        have h3 := h c (by rw [hd]; simp)
        have h4 : ∀ (p : UInt8 → Bool) (k : Bs), k.dropWhile p = c :: m → p c = false := by
          intro p k
          induction k with
          | nil => intro h; cases h
          | cons x xs ih =>
            rw [List.dropWhile_cons]
            split
            · exact ih
            · rename_i hx
              intro h
              cases h
              simpa using hx
        have := h4 _ _ hd
        rw [this] at h3
        cases h3
    intro x hx
    exact (dw_nil _ _).1 h2 x (by simpa using hx)
  · intro h x hx
    refine h x ?_
    have := (List.dropWhile_sublist _).subset (List.mem_reverse.1 hx)
    simpa using this
theorem digits_in (c : UInt8) : [48, 49, 50, 51, 52, 53, 54, 55, 56, 57].contains c = isDigit c := by
  revert c
  have : ∀ n : Fin 256, [48, 49, 50, 51, 52, 53, 54, 55, 56, 57].contains (UInt8.ofNat n.val) = isDigit (UInt8.ofNat n.val) := by decide +kernel
  intro c
  have h1 := this ⟨c.toNat, c.toNat_lt⟩
  rwa [UInt8.ofNat_toNat] at h1
theorem trimDig_nil (l : Bs) : Lib.trimS l [48, 49, 50, 51, 52, 53, 54, 55, 56, 57] = [] ↔ l.all isDigit = true := by
  rw [trimS_nil, List.all_eq_true]
  constructor
  · intro h x hx
    rw [← digits_in]
    exact h x hx
  · intro h x hx
    rw [digits_in]
    exact h x hx
theorem trimR_pre (l : Bs) : trimR l <+: l := by
  unfold trimR
  have h := List.dropWhile_suffix isUnitC (l := l.reverse)
  have := List.reverse_prefix.2 h
  rwa [List.reverse_reverse] at this
theorem numOf_lt {d : Bs} (hl : d.length ≤ 9) (hd : d.all isDigit = true) : numOf d < 1000000000 := by
  have key : ∀ (k : Bs) (acc : Nat), k.all isDigit = true → foldN acc k < (acc + 1) * 10 ^ k.length := by
    intro k
    induction k with
    | nil => intro acc _; show acc < (acc + 1) * 1; omega
    | cons c cs ih =>
      intro acc hk
      simp only [List.all_cons, Bool.and_eq_true] at hk
      have hc : 48 ≤ c.toNat ∧ c.toNat ≤ 57 := by
        have := hk.1
        simp only [isDigit, Bool.and_eq_true, decide_eq_true_eq] at this
        exact this
      have h1 := ih (acc * 10 + (c.toNat - 48)) hk.2
      show foldN (acc * 10 + (c.toNat - 48)) cs < _
      have h2 : (acc * 10 + (c.toNat - 48) + 1) * 10 ^ cs.length ≤ ((acc + 1) * 10) * 10 ^ cs.length := Nat.mul_le_mul_right _ (by omega)
      rw [List.length_cons, Nat.pow_succ, Nat.mul_comm (10 ^ cs.length) 10, ← Nat.mul_assoc]
      omega
  have h := key d 0 hd
  have h2 : 10 ^ d.length ≤ 10 ^ 9 := Nat.pow_le_pow_right (by omega) hl
  have h3 : numOf d = foldN 0 d := rfl
  rw [h3]
  omega
theorem parseInt_any {d : Bs} (hl : d.length ≤ 9) (h0 : d ≠ []) (hd : d.all isDigit = true) (w : World) :
    Calls Tryz.prog 233 #[.string ⟨d.toArray⟩, .int .i64 10, .int .i64 64] w fun e w' => e = .returned (.tuple #[.int .i64 (numOf d : Int), .nilIface]) ∧ Fr [] w w' := by
  have hh : Lib.parseIntB 64 (ByteArray.mk d.toArray).data.toList = .ok (numOf d : Int) := by
    rw [Lib.parseIntB_64]
    have hn := numOf_lt hl hd
    rcases atoi_digits hd with ⟨h, _⟩ | ⟨_, h⟩ | ⟨_, _, h⟩
    · exact absurd h h0
    · exact h
    · omega
  refine (Any.strconv_ParseInt_10_at64_ok Tryz.laysC174 ⟨d.toArray⟩ (by simp [ByteArray.size]; omega) _ hh w).mono ?_
  rintro e w' ⟨rfl, hw⟩
  refine ⟨rfl, ?_⟩
  rcases hw with rfl | ⟨t, rfl⟩
  · exact Fr.refl _ _
  · exact fr_new (Lib.bytesWorld_below _ _ _) _
/-- The loop over the units. -/
def UnitRel (N : Int) (S : Bs) (H : Nat) (w : World) (v : Value) (wr : World) : Prop :=
  ∃ i : Nat, v = .int .i64 (i : Int) ∧ i ≤ 6 ∧ Fr [] w wr ∧ wr.heap[H]? = some (.cells unitCells 153 (0, 0)) ∧ unitTail N units S = unitTail N (units.drop i) S
def PSPost (s : ByteArray) (w : World) (e : Ending) (w' : World) : Prop :=
  Fr [] w w' ∧ e = .returned (.tuple #[.int .i64 (psP s.data.toList).1, .int .i64 (psP s.data.toList).2])
set_option maxRecDepth 100000 in
set_option maxHeartbeats 2000000 in
theorem parseSpan_any (s : ByteArray) (hs : s.size ≤ 65536) (w : World) : Calls Tryz.prog 230 #[.string s] w (PSPost s w) := by
  go_enter Tryz.func230, Tryz.ntmps230
  go_wp2_with fail
  refine (Any.strings_TrimRight_laid Tryz.lays162 (by kernel_rfl) s ⟨#[104, 109, 115, 117, 110]⟩ w (by omega) (by decide) (ascii_of_all (by decide))).mono ?_
  rintro e w1 ⟨rfl, hB1⟩
  have hF1 : Fr [] w w1 := fr_newR hB1 []
  clear hB1
  rw [show (ByteArray.data ⟨#[104, 109, 115, 117, 110]⟩).toList = ([104, 109, 115, 117, 110] : Bs) from rfl, trimR_eq]
  obtain ⟨l, hl⟩ : ∃ l, s.data.toList = l := ⟨_, rfl⟩
  rw [hl]
  have hll : l.length = s.size := by rw [← hl, bytes_len]
  obtain ⟨D, hD⟩ : ∃ D, trimR l = D := ⟨_, rfl⟩
  rw [hD]
  have hpre : D <+: l := by rw [← hD]; exact trimR_pre l
  have hps : psP l = if D = [] ∨ 9 < D.length ∨ D.all isDigit = false ∨ D.head? = some 48 then (0, 3) else unitTail (numOf D) units (l.drop D.length) := by rw [← hD]; rfl
  have HPS := Lib.hid hps
  have HD := Lib.hid hD
  have HL := Lib.hid hl
  clear hps hD hl
  obtain ⟨X, hX⟩ : ∃ X : ByteArray, (⟨D.toArray⟩ : ByteArray) = X := ⟨_, rfl⟩
  have hXs : X.size = D.length := by rw [← hX]; simp [ByteArray.size]
  have hXl : X.toList = D := by rw [← hX, ByteArray.toList_eq]
  have HX := Lib.hid hX
  rw [hX]
  clear hX
  by_cases h1 : D = []
  · have hr : psP l = (0, 3) := by rw [HPS.out, if_pos (.inl h1)]
    have HR := Lib.hid hr
    clear hr
    subst h1
    go_wp2_with fail
    go_ret2
    refine ⟨hF1, ?_⟩
    rw [HL.out, HR.out]
    rfl
  by_cases h2 : 9 < D.length
  · have hr : psP l = (0, 3) := by rw [HPS.out, if_pos (.inr (.inl h2))]
    have HR := Lib.hid hr
    clear hr
    have hX0 : X.toList.isEmpty = false := by rw [hXl]; cases D with | nil => exact absurd rfl h1 | cons _ _ => rfl
    have hX9 : (X.size : Int) > 9 := by omega
    clear h1 hXl hXs
    go_wp2_with fail
    go_ret2
    refine ⟨hF1, ?_⟩
    rw [HL.out, HR.out]
    rfl
  have hX0 : X.toList.isEmpty = false := by rw [hXl]; cases D with | nil => exact absurd rfl h1 | cons _ _ => rfl
  have hX9 : ¬ (X.size : Int) > 9 := by omega
  have H1 := Lib.hid h1
  have HXS := Lib.hid hXs
  have HXL := Lib.hid hXl
  have hX9b : X.size ≤ 9 := by omega
  clear h1 hXl hXs h2
  go_wp2_with fail
  refine (Any.strings_Trim_laid Tryz.lays160 (by kernel_rfl) X ⟨#[48, 49, 50, 51, 52, 53, 54, 55, 56, 57]⟩ _ (by omega) (by decide) (ascii_of_all (by decide))).mono ?_
  rintro e w2 ⟨rfl, hB2⟩
  have hF2 : Fr [] w w2 := hF1.trans (fr_newR hB2 [])
  clear hB2
  have hXd : X.data.toList = D := by rw [← HXL.out, ByteArray.toList_eq]
  rw [hXd, show (ByteArray.data ⟨#[48, 49, 50, 51, 52, 53, 54, 55, 56, 57]⟩).toList = ([48, 49, 50, 51, 52, 53, 54, 55, 56, 57] : Bs) from rfl]
  have htd := trimDig_nil D
  obtain ⟨T, hT⟩ : ∃ T, Lib.trimS D [48, 49, 50, 51, 52, 53, 54, 55, 56, 57] = T := ⟨_, rfl⟩
  rw [hT] at htd ⊢
  clear hT
  have hXD := Lib.hid hXd
  clear hXd
  have hbad : (D = [] ∨ 9 < D.length ∨ D.all isDigit = false ∨ D.head? = some 48) → PSPost s w (.returned (.tuple #[.int .i64 0, .int .i64 3])) w2 := fun h => ⟨hF2, by rw [HL.out, HPS.out, if_pos h]⟩
  have HB := Lib.hid hbad
  clear hbad
  by_cases h3 : D.all isDigit = true
  case neg =>
    have hT0 : T ≠ [] := fun h => h3 (htd.1 h)
    have hT1 : T.isEmpty = false := by cases T with | nil => exact absurd rfl hT0 | cons _ _ => rfl
    have H3 := Lib.hid h3
    clear htd h3 hT0
    go_wp2_with fail
    go_ret2
    exact HB.out (.inr (.inr (.inl (by simpa using H3.out))))
  have hT0 : T = [] := htd.2 h3
  subst hT0
  have H3 := Lib.hid h3
  clear htd h3
  obtain ⟨c, D', hDc⟩ : ∃ c D', D = c :: D' := by
    cases D with
    | nil => exact absurd rfl H1.out
    | cons c D' => exact ⟨c, D', rfl⟩
  have hb0 : 0 < X.size := by rw [HXS.out, hDc]; simp
  have hb1 : X[0]'hb0 = c := by
    have h := hXD.out
    rw [hDc] at h
    have : X.data.toList[0]? = some c := by rw [h]; rfl
    have h2 : X[0]'hb0 = X.data.toList[0]'(by rw [h]; simp) := by cases X; rfl
    rw [h2]
    exact (List.getElem?_eq_some_iff.1 this).2
  have hb2 : (0 : Int) ≤ 0 ∧ (0 : Int) < (X.size : Int) := by omega
  have HDC := Lib.hid hDc
  clear hDc
  by_cases h4 : c = 48
  · have h4a : ((c.toNat : Int) == 48) = true := by subst h4; rfl
    have H4 := Lib.hid h4
    clear h4
    go_wp2_with fail
    go_ret2
    exact HB.out (.inr (.inr (.inr (by rw [HDC.out, H4.out]; rfl))))
  have h4a : ((c.toNat : Int) == 48) = false := u8_ne (n := 48) (by omega) h4
  have hgood : psP l = unitTail (numOf D) units (l.drop D.length) := by
    rw [HPS.out, if_neg]
    rintro (h | h | h | h)
    · exact H1.out h
    · have := HXS.out; omega
    · rw [H3.out] at h; cases h
    · rw [HDC.out] at h
      exact h4 (by simpa using h)
  have HG := Lib.hid hgood
  clear hgood h4
  have hpi := parseInt_any (d := D) (by rw [← HXS.out]; exact hX9b) H1.out H3.out
  rw [HX.out] at hpi
  go_wp2_with fail
  refine (hpi _).mono ?_
  rintro e w3 ⟨rfl, hF3⟩
  clear hpi
  have hN1 : numOf D < 1000000000 := numOf_lt (by rw [← HXS.out]; exact hX9b) H3.out
  obtain ⟨N, hN⟩ : ∃ N : Int, (numOf D : Int) = N := ⟨_, rfl⟩
  have hN2 : 0 ≤ N ∧ N < 1000000000 := by omega
  obtain ⟨S, hS⟩ : ∃ S, l.drop D.length = S := ⟨_, rfl⟩
  have HGL : Hid (psP l = unitTail N units S) := Lib.hid (by rw [← hS, ← hN]; exact HG.out)
  obtain ⟨R, hR⟩ : ∃ R : ByteArray, s.extract X.size s.size = R := ⟨_, rfl⟩
  have hXle : X.size ≤ s.size := by rw [HXS.out, ← hll]; exact hpre.length_le
  have HRL : Hid (R.toList = S) := Lib.hid (by
    rw [← hR, ByteArray.toList_eq, extract_list, HL.out, ← hS, HXS.out]
    exact List.take_of_length_le (by simp; omega))
  have hF3a : Fr [] w w3 := hF2.trans hF3
  rw [hN]
  clear hN HG hS hF2 hF3 hF1 HB HDC hb1 hb2 h4a hX0 H1 hpre hN1
  go_wp2_with fail
  refine (units_any w3).mono ?_
  rintro e w4 ⟨rfl, hw4⟩
  obtain ⟨H, hH⟩ : ∃ H, w3.heap.size = H := ⟨_, rfl⟩
  rw [hH]
  have H0 : UnitRel N S H w (.int .i64 0) w4 := ⟨0, rfl, by omega, by rw [hw4]; exact hF3a.alloc _, by rw [hw4, ← hH]; exact Go.Bl.heap_alloc _ _, rfl⟩
  clear hw4 hF3a hH
  go_wp2_with fail
  go_loopw [35] (fun v wr => UnitRel N S H w v wr) (fun v _ => 6 - (intOf v).toNat)
  case atStart => exact H0
  case round =>
    clear H0
    obtain ⟨i, rfl, hi, hF, hT, hsp⟩ := hrel
    have HP := Lib.hid hsp
    clear hsp
    have d0 := cell_of hT 0
    have d1 := cell_of hT 1
    have d2 := cell_of hT 2
    have d3 := cell_of hT 3
    have d4 := cell_of hT 4
    have d5 := cell_of hT 5
    have d6 := cell_of hT 6
    have d7 := cell_of hT 7
    have d8 := cell_of hT 8
    have d9 := cell_of hT 9
    have d10 := cell_of hT 10
    have d11 := cell_of hT 11
    unfold unitCells at d0 d1 d2 d3 d4 d5 d6 d7 d8 d9 d10 d11
    simp only [List.getElem?_toArray, List.getElem?_cons_zero, List.getElem?_cons_succ] at d0 d1 d2 d3 d4 d5 d6 d7 d8 d9 d10 d11
    have hic : i = 0 ∨ i = 1 ∨ i = 2 ∨ i = 3 ∨ i = 4 ∨ i = 5 ∨ i = 6 := by omega
    rcases hic with rfl | rfl | rfl | rfl | rfl | rfl | rfl
    · have hstep : unitTail N (units.drop 0) S = if [104] = S then (if maxTime / 3600000000000 < N then (0, 1) else (N * 3600000000000, 0)) else unitTail N (units.drop 1) S := rfl
      have hmx : maxTime / 3600000000000 = 312 := by decide
      rw [hmx] at hstep
      have hF5 : Fr [] w (wr.alloc (.cells #[.string ⟨#[104]⟩, .int .i64 3600000000000] 153)) := hF.alloc _
      have hT5 : (wr.alloc (.cells #[.string ⟨#[104]⟩, .int .i64 3600000000000] 153)).heap[H]? = some (.cells unitCells 153 (0, 0)) := Go.Bl.heap_alloc_old hT _
      have c5 : (wr.alloc (.cells #[.string ⟨#[104]⟩, .int .i64 3600000000000] 153)).cell? ⟨wr.heap.size, 0, none⟩ = some (.string ⟨#[104]⟩) := by rw [cell_of (Go.Bl.heap_alloc wr _)]; rfl
      have c6 : (wr.alloc (.cells #[.string ⟨#[104]⟩, .int .i64 3600000000000] 153)).cell? ⟨wr.heap.size, 1, none⟩ = some (.int .i64 3600000000000) := by rw [cell_of (Go.Bl.heap_alloc wr _)]; rfl
      have HF := Lib.hid (And.intro hF5 hT5)
      clear hF5 hT5
      obtain ⟨t, ht⟩ : ∃ t, (([104] : List UInt8) == R.toList) = t := ⟨_, rfl⟩
      go_upto_region 9 with fail
      obtain ⟨w5, hw5⟩ : ∃ w5, (wr.alloc (.cells #[.string ⟨#[104]⟩, .int .i64 3600000000000] 153)) = w5 := ⟨_, rfl⟩
      rw [hw5] at HF c5 c6 ⊢
      clear hw5
      go_quiet (fail)
      by_cases hq : [104] = S
      · have ht1 : t = true := by rw [← ht, HRL.out]; simpa using hq
        subst ht1
        rw [if_pos hq] at hstep
        by_cases hL : 312 < N
        · have hr : psP l = (0, 1) := by rw [HGL.out, HP.out, hstep, if_pos hL]
          have HR := Lib.hid hr
          have hL2 : N > 312 := hL
          clear hr hL hstep
          go_wp2_with fail
          go_ret2
          exact ⟨HF.out.1.drewN _, by rw [HL.out, HR.out]; rfl⟩
        · have hr : psP l = (N * 3600000000000, 0) := by rw [HGL.out, HP.out, hstep, if_neg hL]
          have HR := Lib.hid hr
          have hL2 : ¬ N > 312 := hL
          have hmul : N * 3600000000000 ≤ 1125899906842624 := by omega
          clear hr hL hstep
          go_wp2_with fail
          go_ret2
          exact ⟨HF.out.1.drewN _, by rw [HL.out, HR.out]; rfl⟩
      · have ht1 : t = false := by rw [← ht, HRL.out]; simpa using hq
        subst ht1
        have hr : unitTail N units S = unitTail N (units.drop 1) S := by rw [HP.out, hstep, if_neg hq]
        have HR := Lib.hid hr
        clear hr hstep hq
        go_wp2_with fail
        exact ⟨⟨1, rfl, by omega, HF.out.1.drewN _, HF.out.2, HR.out⟩, by simp [intOf]⟩
    · have hstep : unitTail N (units.drop 1) S = if [109] = S then (if maxTime / 60000000000 < N then (0, 1) else (N * 60000000000, 0)) else unitTail N (units.drop 2) S := rfl
      have hmx : maxTime / 60000000000 = 18764 := by decide
      rw [hmx] at hstep
      have hF5 : Fr [] w (wr.alloc (.cells #[.string ⟨#[109]⟩, .int .i64 60000000000] 153)) := hF.alloc _
      have hT5 : (wr.alloc (.cells #[.string ⟨#[109]⟩, .int .i64 60000000000] 153)).heap[H]? = some (.cells unitCells 153 (0, 0)) := Go.Bl.heap_alloc_old hT _
      have c5 : (wr.alloc (.cells #[.string ⟨#[109]⟩, .int .i64 60000000000] 153)).cell? ⟨wr.heap.size, 0, none⟩ = some (.string ⟨#[109]⟩) := by rw [cell_of (Go.Bl.heap_alloc wr _)]; rfl
      have c6 : (wr.alloc (.cells #[.string ⟨#[109]⟩, .int .i64 60000000000] 153)).cell? ⟨wr.heap.size, 1, none⟩ = some (.int .i64 60000000000) := by rw [cell_of (Go.Bl.heap_alloc wr _)]; rfl
      have HF := Lib.hid (And.intro hF5 hT5)
      clear hF5 hT5
      obtain ⟨t, ht⟩ : ∃ t, (([109] : List UInt8) == R.toList) = t := ⟨_, rfl⟩
      go_upto_region 9 with fail
      obtain ⟨w5, hw5⟩ : ∃ w5, (wr.alloc (.cells #[.string ⟨#[109]⟩, .int .i64 60000000000] 153)) = w5 := ⟨_, rfl⟩
      rw [hw5] at HF c5 c6 ⊢
      clear hw5
      go_quiet (fail)
      by_cases hq : [109] = S
      · have ht1 : t = true := by rw [← ht, HRL.out]; simpa using hq
        subst ht1
        rw [if_pos hq] at hstep
        by_cases hL : 18764 < N
        · have hr : psP l = (0, 1) := by rw [HGL.out, HP.out, hstep, if_pos hL]
          have HR := Lib.hid hr
          have hL2 : N > 18764 := hL
          clear hr hL hstep
          go_wp2_with fail
          go_ret2
          exact ⟨HF.out.1.drewN _, by rw [HL.out, HR.out]; rfl⟩
        · have hr : psP l = (N * 60000000000, 0) := by rw [HGL.out, HP.out, hstep, if_neg hL]
          have HR := Lib.hid hr
          have hL2 : ¬ N > 18764 := hL
          have hmul : N * 60000000000 ≤ 1125899906842624 := by omega
          clear hr hL hstep
          go_wp2_with fail
          go_ret2
          exact ⟨HF.out.1.drewN _, by rw [HL.out, HR.out]; rfl⟩
      · have ht1 : t = false := by rw [← ht, HRL.out]; simpa using hq
        subst ht1
        have hr : unitTail N units S = unitTail N (units.drop 2) S := by rw [HP.out, hstep, if_neg hq]
        have HR := Lib.hid hr
        clear hr hstep hq
        go_wp2_with fail
        exact ⟨⟨2, rfl, by omega, HF.out.1.drewN _, HF.out.2, HR.out⟩, by simp [intOf]⟩
    · have hstep : unitTail N (units.drop 2) S = if [115] = S then (if maxTime / 1000000000 < N then (0, 1) else (N * 1000000000, 0)) else unitTail N (units.drop 3) S := rfl
      have hmx : maxTime / 1000000000 = 1125899 := by decide
      rw [hmx] at hstep
      have hF5 : Fr [] w (wr.alloc (.cells #[.string ⟨#[115]⟩, .int .i64 1000000000] 153)) := hF.alloc _
      have hT5 : (wr.alloc (.cells #[.string ⟨#[115]⟩, .int .i64 1000000000] 153)).heap[H]? = some (.cells unitCells 153 (0, 0)) := Go.Bl.heap_alloc_old hT _
      have c5 : (wr.alloc (.cells #[.string ⟨#[115]⟩, .int .i64 1000000000] 153)).cell? ⟨wr.heap.size, 0, none⟩ = some (.string ⟨#[115]⟩) := by rw [cell_of (Go.Bl.heap_alloc wr _)]; rfl
      have c6 : (wr.alloc (.cells #[.string ⟨#[115]⟩, .int .i64 1000000000] 153)).cell? ⟨wr.heap.size, 1, none⟩ = some (.int .i64 1000000000) := by rw [cell_of (Go.Bl.heap_alloc wr _)]; rfl
      have HF := Lib.hid (And.intro hF5 hT5)
      clear hF5 hT5
      obtain ⟨t, ht⟩ : ∃ t, (([115] : List UInt8) == R.toList) = t := ⟨_, rfl⟩
      go_upto_region 9 with fail
      obtain ⟨w5, hw5⟩ : ∃ w5, (wr.alloc (.cells #[.string ⟨#[115]⟩, .int .i64 1000000000] 153)) = w5 := ⟨_, rfl⟩
      rw [hw5] at HF c5 c6 ⊢
      clear hw5
      go_quiet (fail)
      by_cases hq : [115] = S
      · have ht1 : t = true := by rw [← ht, HRL.out]; simpa using hq
        subst ht1
        rw [if_pos hq] at hstep
        by_cases hL : 1125899 < N
        · have hr : psP l = (0, 1) := by rw [HGL.out, HP.out, hstep, if_pos hL]
          have HR := Lib.hid hr
          have hL2 : N > 1125899 := hL
          clear hr hL hstep
          go_wp2_with fail
          go_ret2
          exact ⟨HF.out.1.drewN _, by rw [HL.out, HR.out]; rfl⟩
        · have hr : psP l = (N * 1000000000, 0) := by rw [HGL.out, HP.out, hstep, if_neg hL]
          have HR := Lib.hid hr
          have hL2 : ¬ N > 1125899 := hL
          have hmul : N * 1000000000 ≤ 1125899906842624 := by omega
          clear hr hL hstep
          go_wp2_with fail
          go_ret2
          exact ⟨HF.out.1.drewN _, by rw [HL.out, HR.out]; rfl⟩
      · have ht1 : t = false := by rw [← ht, HRL.out]; simpa using hq
        subst ht1
        have hr : unitTail N units S = unitTail N (units.drop 3) S := by rw [HP.out, hstep, if_neg hq]
        have HR := Lib.hid hr
        clear hr hstep hq
        go_wp2_with fail
        exact ⟨⟨3, rfl, by omega, HF.out.1.drewN _, HF.out.2, HR.out⟩, by simp [intOf]⟩
    · have hstep : unitTail N (units.drop 3) S = if [109, 115] = S then (if maxTime / 1000000 < N then (0, 1) else (N * 1000000, 0)) else unitTail N (units.drop 4) S := rfl
      have hmx : maxTime / 1000000 = 1125899906 := by decide
      rw [hmx] at hstep
      have hF5 : Fr [] w (wr.alloc (.cells #[.string ⟨#[109, 115]⟩, .int .i64 1000000] 153)) := hF.alloc _
      have hT5 : (wr.alloc (.cells #[.string ⟨#[109, 115]⟩, .int .i64 1000000] 153)).heap[H]? = some (.cells unitCells 153 (0, 0)) := Go.Bl.heap_alloc_old hT _
      have c5 : (wr.alloc (.cells #[.string ⟨#[109, 115]⟩, .int .i64 1000000] 153)).cell? ⟨wr.heap.size, 0, none⟩ = some (.string ⟨#[109, 115]⟩) := by rw [cell_of (Go.Bl.heap_alloc wr _)]; rfl
      have c6 : (wr.alloc (.cells #[.string ⟨#[109, 115]⟩, .int .i64 1000000] 153)).cell? ⟨wr.heap.size, 1, none⟩ = some (.int .i64 1000000) := by rw [cell_of (Go.Bl.heap_alloc wr _)]; rfl
      have HF := Lib.hid (And.intro hF5 hT5)
      clear hF5 hT5
      obtain ⟨t, ht⟩ : ∃ t, (([109, 115] : List UInt8) == R.toList) = t := ⟨_, rfl⟩
      go_upto_region 9 with fail
      obtain ⟨w5, hw5⟩ : ∃ w5, (wr.alloc (.cells #[.string ⟨#[109, 115]⟩, .int .i64 1000000] 153)) = w5 := ⟨_, rfl⟩
      rw [hw5] at HF c5 c6 ⊢
      clear hw5
      go_quiet (fail)
      by_cases hq : [109, 115] = S
      · have ht1 : t = true := by rw [← ht, HRL.out]; simpa using hq
        subst ht1
        rw [if_pos hq] at hstep
        by_cases hL : 1125899906 < N
        · exfalso; omega
        · have hr : psP l = (N * 1000000, 0) := by rw [HGL.out, HP.out, hstep, if_neg hL]
          have HR := Lib.hid hr
          have hL2 : ¬ N > 1125899906 := hL
          have hmul : N * 1000000 ≤ 1125899906842624 := by omega
          clear hr hL hstep
          go_wp2_with fail
          go_ret2
          exact ⟨HF.out.1.drewN _, by rw [HL.out, HR.out]; rfl⟩
      · have ht1 : t = false := by rw [← ht, HRL.out]; simpa using hq
        subst ht1
        have hr : unitTail N units S = unitTail N (units.drop 4) S := by rw [HP.out, hstep, if_neg hq]
        have HR := Lib.hid hr
        clear hr hstep hq
        go_wp2_with fail
        exact ⟨⟨4, rfl, by omega, HF.out.1.drewN _, HF.out.2, HR.out⟩, by simp [intOf]⟩
    · have hstep : unitTail N (units.drop 4) S = if [117, 115] = S then (if maxTime / 1000 < N then (0, 1) else (N * 1000, 0)) else unitTail N (units.drop 5) S := rfl
      have hmx : maxTime / 1000 = 1125899906842 := by decide
      rw [hmx] at hstep
      have hF5 : Fr [] w (wr.alloc (.cells #[.string ⟨#[117, 115]⟩, .int .i64 1000] 153)) := hF.alloc _
      have hT5 : (wr.alloc (.cells #[.string ⟨#[117, 115]⟩, .int .i64 1000] 153)).heap[H]? = some (.cells unitCells 153 (0, 0)) := Go.Bl.heap_alloc_old hT _
      have c5 : (wr.alloc (.cells #[.string ⟨#[117, 115]⟩, .int .i64 1000] 153)).cell? ⟨wr.heap.size, 0, none⟩ = some (.string ⟨#[117, 115]⟩) := by rw [cell_of (Go.Bl.heap_alloc wr _)]; rfl
      have c6 : (wr.alloc (.cells #[.string ⟨#[117, 115]⟩, .int .i64 1000] 153)).cell? ⟨wr.heap.size, 1, none⟩ = some (.int .i64 1000) := by rw [cell_of (Go.Bl.heap_alloc wr _)]; rfl
      have HF := Lib.hid (And.intro hF5 hT5)
      clear hF5 hT5
      obtain ⟨t, ht⟩ : ∃ t, (([117, 115] : List UInt8) == R.toList) = t := ⟨_, rfl⟩
      go_upto_region 9 with fail
      obtain ⟨w5, hw5⟩ : ∃ w5, (wr.alloc (.cells #[.string ⟨#[117, 115]⟩, .int .i64 1000] 153)) = w5 := ⟨_, rfl⟩
      rw [hw5] at HF c5 c6 ⊢
      clear hw5
      go_quiet (fail)
      by_cases hq : [117, 115] = S
      · have ht1 : t = true := by rw [← ht, HRL.out]; simpa using hq
        subst ht1
        rw [if_pos hq] at hstep
        by_cases hL : 1125899906842 < N
        · exfalso; omega
        · have hr : psP l = (N * 1000, 0) := by rw [HGL.out, HP.out, hstep, if_neg hL]
          have HR := Lib.hid hr
          have hL2 : ¬ N > 1125899906842 := hL
          have hmul : N * 1000 ≤ 1125899906842624 := by omega
          clear hr hL hstep
          go_wp2_with fail
          go_ret2
          exact ⟨HF.out.1.drewN _, by rw [HL.out, HR.out]; rfl⟩
      · have ht1 : t = false := by rw [← ht, HRL.out]; simpa using hq
        subst ht1
        have hr : unitTail N units S = unitTail N (units.drop 5) S := by rw [HP.out, hstep, if_neg hq]
        have HR := Lib.hid hr
        clear hr hstep hq
        go_wp2_with fail
        exact ⟨⟨5, rfl, by omega, HF.out.1.drewN _, HF.out.2, HR.out⟩, by simp [intOf]⟩
    · have hstep : unitTail N (units.drop 5) S = if [110, 115] = S then (if maxTime / 1 < N then (0, 1) else (N * 1, 0)) else unitTail N (units.drop 6) S := rfl
      have hmx : maxTime / 1 = 1125899906842624 := by decide
      rw [hmx] at hstep
      have hF5 : Fr [] w (wr.alloc (.cells #[.string ⟨#[110, 115]⟩, .int .i64 1] 153)) := hF.alloc _
      have hT5 : (wr.alloc (.cells #[.string ⟨#[110, 115]⟩, .int .i64 1] 153)).heap[H]? = some (.cells unitCells 153 (0, 0)) := Go.Bl.heap_alloc_old hT _
      have c5 : (wr.alloc (.cells #[.string ⟨#[110, 115]⟩, .int .i64 1] 153)).cell? ⟨wr.heap.size, 0, none⟩ = some (.string ⟨#[110, 115]⟩) := by rw [cell_of (Go.Bl.heap_alloc wr _)]; rfl
      have c6 : (wr.alloc (.cells #[.string ⟨#[110, 115]⟩, .int .i64 1] 153)).cell? ⟨wr.heap.size, 1, none⟩ = some (.int .i64 1) := by rw [cell_of (Go.Bl.heap_alloc wr _)]; rfl
      have HF := Lib.hid (And.intro hF5 hT5)
      clear hF5 hT5
      obtain ⟨t, ht⟩ : ∃ t, (([110, 115] : List UInt8) == R.toList) = t := ⟨_, rfl⟩
      go_upto_region 9 with fail
      obtain ⟨w5, hw5⟩ : ∃ w5, (wr.alloc (.cells #[.string ⟨#[110, 115]⟩, .int .i64 1] 153)) = w5 := ⟨_, rfl⟩
      rw [hw5] at HF c5 c6 ⊢
      clear hw5
      go_quiet (fail)
      by_cases hq : [110, 115] = S
      · have ht1 : t = true := by rw [← ht, HRL.out]; simpa using hq
        subst ht1
        rw [if_pos hq] at hstep
        by_cases hL : 1125899906842624 < N
        · exfalso; omega
        · have hr : psP l = (N, 0) := by rw [HGL.out, HP.out, hstep, if_neg hL]; simp
          have HR := Lib.hid hr
          have hL2 : ¬ N > 1125899906842624 := hL
          have hmul : N ≤ 1125899906842624 := by omega
          clear hr hL hstep
          go_wp2_with fail
          go_ret2
          exact ⟨HF.out.1.drewN _, by rw [HL.out, HR.out]; rfl⟩
      · have ht1 : t = false := by rw [← ht, HRL.out]; simpa using hq
        subst ht1
        have hr : unitTail N units S = unitTail N (units.drop 6) S := by rw [HP.out, hstep, if_neg hq]
        have HR := Lib.hid hr
        clear hr hstep hq
        go_wp2_with fail
        exact ⟨⟨6, rfl, by omega, HF.out.1.drewN _, HF.out.2, HR.out⟩, by simp [intOf]⟩
    · have hr : psP l = (0, 3) := by rw [HGL.out, HP.out]; rfl
      have HR := Lib.hid hr
      clear hr
      go_wp2_with fail
      go_ret2
      exact ⟨hF, by rw [HL.out, HR.out]; rfl⟩
end Go.Proofs.YtdhmloejgoacaaaGreatDoor
