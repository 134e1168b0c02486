/- strings.IndexAny where the first of the signs stands behind ASCII bytes alone (what follows may be of any kind). -/
import Derived.Test.YtdhmloejgoacaaaGreatDoorTqPSpan
import Derived.Shelf.Strings.IndexAnyAll
import Derived.Test.YtdhmloejgoacaaaGreatDoorMw23
import Derived.Test.YtdhmloejgoacaaaGreatDoorMw21
set_option linter.unusedVariables false
set_option linter.unusedSimpArgs false
namespace Go.Proofs.YtdhmloejgoacaaaGreatDoor
open Go.RowKit Go.Bl Go.Lq Go.Tq

abbrev opSigns : Bs := [61, 33, 32, 9]
theorem indexAny_list (x : UInt8) (rest : Bs) (hx : opSigns.contains x = true) : ∀ K : Bs, (∀ c ∈ K, opSigns.contains c = false) → Lib.indexAny (K ++ x :: rest) opSigns = (K.length : Int)
  | [], _ => by
    show (if opSigns.contains x then (0 : Int) else _) = 0
    rw [if_pos hx]
  | c :: K, h => by
    have ih := indexAny_list x rest hx K (fun d hd => h d (by simp [hd]))
    show (if opSigns.contains c then (0 : Int) else if Lib.indexAny (K ++ x :: rest) opSigns == -1 then -1 else Lib.indexAny (K ++ x :: rest) opSigns + 1) = _
    rw [if_neg (by rw [h c (by simp)]; simp), ih, if_neg (by simp)]
    simp
theorem at_list (s : ByteArray) {i : Nat} {c : UInt8} (h : s.data.toList[i]? = some c) : ∃ hi : i < s.size, s[i] = c := by
  have hl := bytes_len s
  obtain ⟨h1, h2⟩ := List.getElem?_eq_some_iff.1 h
  refine ⟨by omega, ?_⟩
  have : s[i]'(by omega) = s.data.toList[i]'h1 := by cases s; rfl
  rw [this]
  exact h2
def IdxRel (s : ByteArray) (n : Nat) (w : World) (g : Nat) (wx : World) : Prop := ∃ i : Nat, i + g = s.size ∧ wx = w.iter s i ∧ i ≤ n
set_option maxRecDepth 100000 in
set_option maxHeartbeats 2000000 in
theorem indexAny_short (s : ByteArray) (K : Bs) (x : UInt8) (rest : Bs) (hs : s.size ≤ 8) (hl : s.data.toList = K ++ x :: rest) (hK : ∀ c ∈ K, c.toNat < 128 ∧ opSigns.contains c = false) (hx : opSigns.contains x = true) (w : World) :
    Calls Tryz.prog 242 #[.string s, .string ⟨#[61, 33, 32, 9]⟩] w fun e w' => e = .returned (.int .i64 (K.length : Int)) ∧ Fr [] w w' := by
  have h8z : decide ((8 : Int) < (s.size : Int)) = false := decide_eq_false (by omega)
  have hsl : s.size = K.length + (rest.length + 1) := by rw [← bytes_len, hl]; simp
  have hKs : K.length < s.size := by omega
  clear hsl
  have hx1 : x.toNat < 128 := by
    have : ∀ n : Fin 256, opSigns.contains (UInt8.ofNat n.val) = true → (UInt8.ofNat n.val).toNat < 128 := by decide +kernel
    have h1 := this ⟨x.toNat, x.toNat_lt⟩
    rw [UInt8.ofNat_toNat] at h1
    exact h1 hx
  have HL := Lib.hid (And.intro hl (And.intro hK hx))
  clear hl hK hx
  have H0 : IdxRel s K.length w s.size (w.iter s 0) := ⟨0, by omega, rfl, Nat.zero_le _⟩
  go_enter Tryz.func242, Tryz.ntmps242
  go_wp2_with fail
  refine (Any.strings_shouldUseASCIISet { Tryz.lays153 with } _ _).mono ?_
  rintro e w' ⟨rfl, hw⟩
  rw [hw, h8z]
  go_wp2_with fail
  go_loopg [9, 10] s.size (fun g _ _ wx => IdxRel s K.length w g wx)
  case atStart => exact H0
  case round =>
    clear H0
    obtain ⟨i, hig, rfl, hin⟩ := hrel
    obtain ⟨g, rfl⟩ : ∃ g, gk = g + 1 := ⟨gk - 1, by omega⟩
    have hi : i < s.size := by omega
    by_cases hik : i < K.length
    · have hxl : s.data.toList[i]? = some K[i] := by rw [HL.out.1, List.getElem?_append_left hik]; simp
      obtain ⟨_, hat⟩ := at_list s hxl
      obtain ⟨c, hc⟩ : ∃ c, K[i] = c := ⟨_, rfl⟩
      obtain ⟨hc1, hc2⟩ := HL.out.2.1 c (by rw [← hc]; simp)
      have hnx := fun ty => run_next_ascii (P := Tryz.prog) w s i ty hi (by rw [hat, hc]; exact hc1)
      rw [hat, hc] at hnx
      have hcon := Lib.contains_iff_indexByte opSigns c
      have hback : ((c.toNat : Int)).toNat.toUInt8 = c := by simp
      rw [hc2] at hcon
      have hlt : ¬ ((0 : Int) ≤ Lib.indexByte [61, 33, 32, 9] c) := of_decide_eq_false hcon.symm
      clear hcon hc hxl hat
      go_wp2_with (go_at_call 155; refine (Any.strings_IndexRune_ascii { Tryz.lays153 with } _ _ _ (by omega) (by omega)).mono ?_; rintro e w' ⟨rfl, hw⟩; rw [hw, hback])
      go_roundg g
      case measure => omega
      case rel => exact ⟨i + 1, by omega, rfl, by omega⟩
    · obtain rfl : i = K.length := by omega
      have hxl : s.data.toList[K.length]? = some x := by rw [HL.out.1]; simp
      obtain ⟨_, hat⟩ := at_list s hxl
      have hnx := fun ty => run_next_ascii (P := Tryz.prog) w s K.length ty hi (by rw [hat]; exact hx1)
      rw [hat] at hnx
      have hcon := Lib.contains_iff_indexByte opSigns x
      have hback : ((x.toNat : Int)).toNat.toUInt8 = x := by simp
      rw [HL.out.2.2] at hcon
      have hge : (0 : Int) ≤ Lib.indexByte [61, 33, 32, 9] x := of_decide_eq_true hcon.symm
      clear hcon hxl hat
      go_wp2_with (go_at_call 155; refine (Any.strings_IndexRune_ascii { Tryz.lays153 with } _ _ _ (by omega) (by omega)).mono ?_; rintro e w' ⟨rfl, hw⟩; rw [hw, hback])
      go_ret
      exact ⟨rfl, (Fr.refl _ _).alloc _⟩
theorem indexAny_at (s : ByteArray) (K : Bs) (x : UInt8) (rest : Bs) (hs : s.size ≤ 65536) (hl : s.data.toList = K ++ x :: rest) (hK : ∀ c ∈ K, c.toNat < 128 ∧ opSigns.contains c = false) (hx : opSigns.contains x = true) (w : World) :
    Calls Tryz.prog 242 #[.string s, .string ⟨#[61, 33, 32, 9]⟩] w fun e w' => e = .returned (.int .i64 (K.length : Int)) ∧ Fr [] w w' := by
  by_cases h8 : s.size ≤ 8
  · exact indexAny_short s K x rest h8 hl hK hx w
  · have h162 : (Tryz.prog.info? 162).map (fun i => (i.zero, i.size)) = some (some (.agg (Array.replicate 256 (.bool false))), 256) := by kernel_rfl
    refine (Any.strings_IndexAny_long Tryz.lays153 (zero_of_info h162).1 (zero_of_info h162).2 s ⟨#[61, 33, 32, 9]⟩ w (by decide) (by omega) (by omega) (by decide) (ascii_of_all (by decide))).mono ?_
    rintro e w' ⟨rfl, hw⟩
    refine ⟨?_, ?_⟩
    · rw [hl, show (ByteArray.data ⟨#[61, 33, 32, 9]⟩).toList = opSigns from rfl, indexAny_list x rest hx K (fun c hc => (hK c hc).2)]
    · rw [hw]
      exact ((Fr.refl _ _).alloc _).alloc _
end Go.Proofs.YtdhmloejgoacaaaGreatDoor
namespace Go.Proofs.YtdhmloejgoacaaaGreatDoor
open Go.RowKit Go.Bl Go.Lq Go.Tq

theorem quoted_ends {v : Bs} : ∀ (n : Nat) (acc q : Bs), q.length ≤ n → quotedBody acc q = .ok v [] → ∃ q', q = q' ++ [34] := by
  intro n
  induction n with
  | zero =>
    intro acc q hl h
    have : q = [] := List.eq_nil_of_length_eq_zero (by omega)
    subst this
    cases h
  | succ n ih =>
    intro acc q hl h
    cases q with
    | nil => cases h
    | cons c cs =>
      have hcs : cs.length ≤ n := by simp at hl; omega
      rw [qb_cons] at h
      by_cases q1 : c = 34
      · rw [if_pos q1] at h
        cases h
        subst q1
        exact ⟨[], rfl⟩
      rw [if_neg q1] at h
      by_cases q2 : c = 10
      · rw [if_pos q2] at h; cases h
      rw [if_neg q2] at h
      by_cases q3 : c = 92
      · rw [if_pos q3] at h
        cases cs with
        | nil => cases h
        | cons d ds =>
          have hds : ds.length ≤ n := by simp at hcs; omega
          simp only at h
          have tr : ∀ a, quotedBody a ds = .ok v [] → ∃ q', c :: d :: ds = q' ++ [34] := fun a h => by
            obtain ⟨q', rfl⟩ := ih a ds hds h
            exact ⟨c :: d :: q', rfl⟩
          by_cases e1 : d = 34
          · rw [if_pos e1] at h; exact tr _ h
          rw [if_neg e1] at h
          by_cases e2 : d = 92
          · rw [if_pos e2] at h; exact tr _ h
          rw [if_neg e2] at h
          by_cases e3 : d = 110
          · rw [if_pos e3] at h; exact tr _ h
          · rw [if_neg e3] at h; cases h
      · rw [if_neg q3] at h
        obtain ⟨q', rfl⟩ := ih _ cs hcs h
        exact ⟨c :: q', rfl⟩
theorem dw_app (p : UInt8 → Bool) : ∀ (a r : Bs), (∀ c ∈ a, p c = true) → (∀ c ∈ r.head?, p c = false) → (a ++ r).dropWhile p = r
  | [], [], _, _ => rfl
  | [], c :: r, _, h => by
    rw [List.nil_append, List.dropWhile_cons, if_neg (by rw [h c rfl]; simp)]
  | c :: a, r, ha, h => by
    rw [List.cons_append, List.dropWhile_cons, if_pos (ha c (by simp))]
    exact dw_app p a r (fun d hd => ha d (by simp [hd])) h
theorem blank_in (c : UInt8) : ([32, 9] : Bs).contains c = isBlank c := by
  simp [isBlank, Bool.beq_eq_decide_eq]
theorem trim_core {a core b : Bs} (ha : Blanks a) (hb : Blanks b) (hne : core ≠ []) (h1 : ∀ c ∈ core.head?, isBlank c = false) (h2 : ∀ c ∈ core.getLast?, isBlank c = false) :
    Lib.trimS (a ++ (core ++ b)) [32, 9] = core := by
  unfold Lib.trimS Lib.trimLeftS Lib.trimRightS
  have e : (fun x => ([32, 9] : Bs).contains x) = isBlank := funext blank_in
  rw [e]
  have h3 : (a ++ (core ++ b)).reverse = b.reverse ++ (core.reverse ++ a.reverse) := by simp
  rw [h3, dw_app isBlank b.reverse _ (fun c hc => hb c (by simpa using hc)) (fun c hc => by
    have : core.reverse ≠ [] := by simpa using hne
    rw [List.head?_append, List.head?_reverse] at hc
    cases hl : core.getLast? with
    | none => simp at hl; exact absurd hl hne
    | some y =>
      rw [hl] at hc
      simp at hc
      subst hc
      exact h2 _ (by rw [hl]; simp))]
  rw [show (core.reverse ++ a.reverse).reverse = a ++ core by simp]
  exact dw_app isBlank a core ha h1
theorem indexByte_list (r : Bs) : ∀ A : Bs, (∀ c ∈ A, c ≠ 34) → Lib.indexByte (A ++ 34 :: r) 34 = (A.length : Int)
  | [], _ => by
    show (if (34 : UInt8) == 34 then (0 : Int) else _) = 0
    rw [if_pos (by decide)]
  | c :: A, h => by
    have ih := indexByte_list r A (fun d hd => h d (by simp [hd]))
    show (if c == 34 then (0 : Int) else if Lib.indexByte (A ++ 34 :: r) 34 == -1 then -1 else Lib.indexByte (A ++ 34 :: r) 34 + 1) = _
    rw [if_neg (by simpa using h c (by simp)), ih, if_neg (by simp)]
    simp
theorem tail_not (c : UInt8) (h : isTail c = true) : c.toNat < 128 ∧ opSigns.contains c = false ∧ c ≠ 34 := by
  revert h; revert c
  have : ∀ n : Fin 256, isTail (UInt8.ofNat n.val) = true → (UInt8.ofNat n.val).toNat < 128 ∧ opSigns.contains (UInt8.ofNat n.val) = false ∧ UInt8.ofNat n.val ≠ 34 := by decide +kernel
  intro c h
  have h1 := this ⟨c.toNat, c.toNat_lt⟩
  rw [UInt8.ofNat_toNat] at h1
  exact h1 h
theorem blank_sign (c : UInt8) (h : isBlank c = true) : opSigns.contains c = true ∧ c ≠ 34 := by
  revert h; revert c
  have : ∀ n : Fin 256, isBlank (UInt8.ofNat n.val) = true → opSigns.contains (UInt8.ofNat n.val) = true ∧ UInt8.ofNat n.val ≠ 34 := by decide +kernel
  intro c h
  have h1 := this ⟨c.toNat, c.toNat_lt⟩
  rw [UInt8.ofNat_toNat] at h1
  exact h1 h
theorem head_not_blank (c : UInt8) (h : isHead c = true) : isBlank c = false := by
  revert h; revert c
  have : ∀ n : Fin 256, isHead (UInt8.ofNat n.val) = true → isBlank (UInt8.ofNat n.val) = false := by decide +kernel
  intro c h
  have h1 := this ⟨c.toNat, c.toNat_lt⟩
  rw [UInt8.ofNat_toNat] at h1
  exact h1 h
/-- What raw meets: S is the text without the blanks about it, i the key's length, k the place of the quote. -/
structure Raw (p : Bs) (m : Mt) (S : Bs) (i k : Nat) : Prop where
  trim : Lib.trimS p [32, 9] = S
  key : ∃ x rest, S = m.key ++ x :: rest ∧ opSigns.contains x = true
  len : i = m.key.length
  quo : Lib.indexByte S 34 = (k : Int)
  val : unqP (S.drop k) = some m.val
  le : i ≤ k ∧ k ≤ S.length
  take : S.take i = m.key
  sign : Lib.trimS ((S.drop i).take (k - i)) [32, 9] = signP m.op
  op : m.op = 1 ∨ m.op = 2 ∨ m.op = 3 ∨ m.op = 4
  ascii : ∀ c ∈ m.key, c.toNat < 128 ∧ opSigns.contains c = false
theorem raw_of {p : Bs} {m : Mt} (h : Piece p m) : ∃ S i k, Raw p m S i k ∧ S.length ≤ p.length := by
  obtain ⟨⟨b0, b1, b2, q, hb0, hb1, hb2, e, hq, k1, k2, o⟩, hh⟩ := h
  have hq0 := hq []
  rw [List.append_nil] at hq0
  obtain ⟨q', hq'⟩ := quoted_ends q.length [] q (Nat.le_refl _) hq0
  have hsg : signP m.op ≠ [] ∧ (∀ c ∈ (signP m.op).head?, isBlank c = false ∧ opSigns.contains c = true) ∧ (∀ c ∈ (signP m.op).getLast?, isBlank c = false) ∧ ∀ c ∈ signP m.op, c ≠ 34 := by
    rcases o with o | o | o | o <;> rw [o] <;> decide
  obtain ⟨s1, s2, s3, s4⟩ := hsg
  have hk : ∀ c ∈ m.key, isTail c = true := fun c hc => List.all_eq_true.1 k2 c hc
  refine ⟨m.key ++ (b1 ++ (signP m.op ++ (b2 ++ 34 :: q))), m.key.length, m.key.length + (b1.length + ((signP m.op).length + b2.length)), ⟨?_, ?_, rfl, ?_, ?_, ?_, ?_, ?_, o, fun c hc => ⟨(tail_not c (hk c hc)).1, (tail_not c (hk c hc)).2.1⟩⟩, by rw [e]; simp⟩
  · have h1 := trim_core (a := b0) (core := m.key ++ (b1 ++ (signP m.op ++ (b2 ++ 34 :: q)))) (b := []) hb0 (fun c hc => by cases hc) (by cases hkk : m.key with | nil => exact absurd hkk k1 | cons _ _ => simp) (fun c hc => by
      cases hkk : m.key with
      | nil => exact absurd hkk k1
      | cons y ys =>
        rw [hkk] at hc hh
        simp at hc
        subst hc
        exact head_not_blank _ (hh _ rfl)) (fun c hc => by
      rw [hq', show m.key ++ (b1 ++ (signP m.op ++ (b2 ++ 34 :: (q' ++ [34])))) = (m.key ++ (b1 ++ (signP m.op ++ (b2 ++ 34 :: q')))) ++ [34] by simp, List.getLast?_append] at hc
      simp at hc
      subst hc
      decide)
    rw [List.append_nil] at h1
    rw [e, h1]
  · cases b1 with
    | nil =>
      cases hs : signP m.op with
      | nil => exact absurd hs s1
      | cons x xs =>
        rw [hs] at s2
        exact ⟨x, xs ++ (b2 ++ 34 :: q), by simp, (s2 x rfl).2⟩
    | cons x xs => exact ⟨x, xs ++ (signP m.op ++ (b2 ++ 34 :: q)), by simp, (blank_sign x (hb1 x (by simp))).1⟩
  · have h1 := indexByte_list q (m.key ++ (b1 ++ (signP m.op ++ b2))) (fun c hc => by
      simp only [List.mem_append] at hc
      rcases hc with hc | hc | hc | hc
      · exact (tail_not c (hk c hc)).2.2
      · exact (blank_sign c (hb1 c hc)).2
      · exact s4 c hc
      · exact (blank_sign c (hb2 c hc)).2)
    simpa using h1
  · have e2 : (m.key ++ (b1 ++ (signP m.op ++ (b2 ++ 34 :: q)))).drop (m.key.length + (b1.length + ((signP m.op).length + b2.length))) = 34 :: q := by
      rw [show m.key ++ (b1 ++ (signP m.op ++ (b2 ++ 34 :: q))) = (m.key ++ (b1 ++ (signP m.op ++ b2))) ++ 34 :: q by simp, show m.key.length + (b1.length + ((signP m.op).length + b2.length)) = (m.key ++ (b1 ++ (signP m.op ++ b2))).length by simp]
      exact List.drop_left
    rw [e2]
    unfold unqP
    rw [show quotedM (34 :: q) = quotedBody [] q from rfl, hq0]
    rfl
  · constructor
    · omega
    · simp
  · exact List.take_left
  · rw [List.drop_left, show m.key.length + (b1.length + ((signP m.op).length + b2.length)) - m.key.length = (b1 ++ (signP m.op ++ b2)).length by simp,
      show b1 ++ (signP m.op ++ (b2 ++ 34 :: q)) = (b1 ++ (signP m.op ++ b2)) ++ 34 :: q by simp, List.take_left]
    exact trim_core hb1 hb2 s1 (fun c hc => (s2 c hc).1) s3
end Go.Proofs.YtdhmloejgoacaaaGreatDoor
namespace Go.Proofs.YtdhmloejgoacaaaGreatDoor
open Go.RowKit Go.Bl Go.Lq Go.Tq

set_option maxRecDepth 100000 in
set_option maxHeartbeats 1600000 in
theorem spanRead_any (b Q o : Nat) (cs : Array Value) (TQ : Nat) (s : ByteArray) (l : Bs) (w : World) (h : Ar 84 w b s l false) (hG : GV w) (hb8 : 8 ≤ b) (hQ8 : 8 ≤ Q)
    (hQ : w.heap[Q]? = some (.cells cs TQ (0, 0))) (hbQ : b ≠ Q) (v0 : Value) (ho : cs[o]? = some v0) :
    Calls Tryz.prog 229 #[.agg #[.pointer (some ⟨Q, o, none⟩)], .pointer (some ⟨b, 0, none⟩)] w (ToPost b Q o cs TQ s l ((readSpan l).map fun x => (.int .i64 x.1, x.2)) w) := by
  have h8 : 8 ≤ w.heap.size := by have := lt_of_obj hQ; omega
  obtain ⟨rc, hrc⟩ : ∃ rc, readSpan l = rc := ⟨_, rfl⟩
  rw [hrc]
  have HRC := Lib.hid hrc
  clear hrc
  have hF0 : Fr [] w (w.alloc (.cells #[.pointer (some ⟨Q, o, none⟩)] 121)) := (Fr.refl _ _).alloc _
  have hR0 := h.fr hF0 (by simp)
  have hQ0 := hF0.obj hQ (by simp)
  have hT0 := Go.Bl.heap_alloc w (.cells #[.pointer (some ⟨Q, o, none⟩)] 121)
  obtain ⟨H, hH⟩ : ∃ H, w.heap.size = H := ⟨_, rfl⟩
  have hbH : b ≠ H := by have := lt_of_obj h.cells; omega
  rw [hH] at hT0
  go_enter Tryz.func229, Tryz.ntmps229
  go_upto_region 1 with fail
  obtain ⟨w0, hw0⟩ : ∃ w0, w.alloc (.cells #[.pointer (some ⟨Q, o, none⟩)] 121) = w0 := ⟨_, rfl⟩
  rw [hw0] at hF0 hR0 hQ0 hT0 ⊢
  clear hw0
  go_wp2_with fail
  refine (word_any b s l false _ hR0).mono ?_
  rintro e w1 ⟨rfl, hR1, hF1⟩
  have hT1 := hF1.obj hT0 (by simpa using hbH.symm)
  have hQ1 := hF1.obj hQ0 (by simpa using hbQ.symm)
  obtain ⟨W, hW⟩ : ∃ W : Bs, wordL l = W := ⟨_, rfl⟩
  rw [hW]
  obtain ⟨X, hX⟩ : ∃ X : ByteArray, (⟨W.toArray⟩ : ByteArray) = X := ⟨_, rfl⟩
  have hXl : X.data.toList = W := by rw [← hX]
  have hpl := (wordL_pre l).length_le
  have hlq := hR1.left.1
  have hsh := hR1.short
  rw [hW] at hpl
  have hXs : X.size = W.length := by rw [← bytes_len, hXl]
  rw [hX]
  obtain ⟨n, hn⟩ : ∃ n, (psP W).1 = n := ⟨_, rfl⟩
  obtain ⟨k, hk⟩ : ∃ k, (psP W).2 = k := ⟨_, rfl⟩
  have hps := parseSpan_any X (by omega) w1
  have hcall : Calls Tryz.prog 230 #[.string X] w1 fun e w' => e = .returned (.tuple #[.int .i64 n, .int .i64 k]) ∧ Fr [] w1 w' := by
    refine hps.mono ?_
    rintro e w' ⟨hF, rfl⟩
    rw [hXl, hn, hk]
    exact ⟨rfl, hF⟩
  have HNK := Lib.hid (And.intro hn hk)
  have HX := Lib.hid (And.intro hX (And.intro hXl hW))
  clear hn hk hps hX hXl hW
  go_wp2_with fail
  refine hcall.mono ?_
  rintro e w2 ⟨rfl, hF2⟩
  clear hcall
  have hR2 := hR1.fr hF2 (by simp)
  have hQ2 := hF2.obj hQ1 (by simp)
  have hT2 := hF2.obj hT1 (by simp)
  have hFa : Fr [b, Q] w w2 := (fr2 ((hF0.mono (T := [b]) (fun i hi => by simp at hi)).trans hF1)).trans (hF2.mono (fun i hi => by simp at hi))
  have j1 := cell_of hR2.cells 1
  have j2 := cell_of hR2.cells 2
  have y1 := frozen_of hR2.cells 1
  have y2 := frozen_of hR2.cells 2
  have t0 := cell_of hT2 0
  have q0 := cell_of hQ2 o
  have qz := frozen_of hQ2 o
  rw [ho] at q0
  simp only [List.getElem?_toArray, List.getElem?_cons_zero, List.getElem?_cons_succ] at j1 j2 t0
  have hrs : readSpan l = match parseSpanP W with
    | some n => some (n, (skipL l).drop W.length)
    | none => none := by rw [← HX.out.2.2]; rfl
  cases hp : parseSpanP W with
  | none =>
    obtain ⟨_, hk3⟩ := ps_none hp
    rw [HNK.out.2] at hk3
    have hk0 : (k != 0) = true := by
      rcases hk3 with rfl | rfl <;> rfl
    have hrn : readSpan l = none := by rw [hrs, hp]
    have HRN := Lib.hid hrn
    clear hrn hrs hp hk3
    go_wp2_with fail
    refine ⟨rfl, .tuple #[], by simp [results, Tryz.results229, go_sem], rfl, hFa.setCell (.inl (by simp)) _, ?_⟩
    rw [show rc = none by rw [← HRC.out]; exact HRN.out]
    exact ⟨by rw [heap_setCell_ne hbQ.symm]; exact hQ2, _, hR2.suf, hR2.flag true⟩
  | some m =>
    have hpp := ps_some hp
    obtain ⟨rfl, rfl⟩ : n = m ∧ k = 0 := ⟨by rw [← HNK.out.1, hpp], by rw [← HNK.out.2, hpp]⟩
    have hrn : readSpan l = some (n, (skipL l).drop W.length) := by rw [hrs, hp]
    have HRN := Lib.hid hrn
    clear hrn hrs hp hpp
    have hR4 : Ar 84 (w2.setCell ⟨Q, o, none⟩ (.int .i64 n)) b s (skipL l) false := ⟨by rw [heap_setCell_ne hbQ]; exact hR2.cells, hR2.suf, hR2.short⟩
    have hQ4 := heap_setCell hQ2 o (.int .i64 n)
    go_upto_region 6 with fail
    obtain ⟨w4, hw4⟩ : ∃ w4, w2.setCell ⟨Q, o, none⟩ (.int .i64 n) = w4 := ⟨_, rfl⟩
    have hF4 : Fr [b, Q] w w4 := by rw [← hw4]; exact hFa.setCell (.inl (by simp)) _
    rw [hw4] at hR4 hQ4 ⊢
    clear hw4 j1 j2 y1 y2 t0 q0 qz
    have j1 := cell_of hR4.cells 1
    have y1 := frozen_of hR4.cells 1
    simp only [List.getElem?_toArray, List.getElem?_cons_zero, List.getElem?_cons_succ] at j1
    go_wp2_with fail
    refine ⟨rfl, .tuple #[], by simp [results, Tryz.results229, go_sem], rfl, hF4.setCell (.inl (by simp)) _, ?_⟩
    rw [show rc = some (n, (skipL l).drop W.length) by rw [← HRC.out]; exact HRN.out]
    refine ⟨by rw [heap_setCell_ne hbQ.symm]; exact hQ4, hR4.set (List.drop_suffix _ _) ?_⟩
    rw [List.length_drop]
    omega
end Go.Proofs.YtdhmloejgoacaaaGreatDoor
