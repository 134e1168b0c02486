/- The words of the parts of a query. -/
import Derived.Test.YtdhmloejgoacaaaGreatDoorMw24
import Derived.Test.YtdhmloejgoacaaaGreatDoorMw21
set_option linter.unusedVariables false
set_option linter.unusedSimpArgs false
namespace Go.Proofs.YtdhmloejgoacaaaGreatDoor
open Go.RowKit Go.Bl Go.Lq Go.Tq

/-- A slice that holds the strings l. -/
def Strs (w : World) (v : Value) (l : List Bs) : Prop := ∃ A cap, v = .slice A l.length cap ∧ (A = none → cap = 0) ∧ ∀ j u, (strsOf l)[j]? = some u → ∃ ad, A = some ad ∧ w.cell? (ad.add j) = some u
theorem Strs.fr {w w' : World} {v : Value} {l : List Bs} (h : Strs w v l) (hF : Fr [] w w') : Strs w' v l := by
  obtain ⟨A, cap, e, h0, hx⟩ := h
  exact ⟨A, cap, e, h0, fun j u hj => by obtain ⟨ad, ha, hc⟩ := hx j u hj; exact ⟨ad, ha, cell_frS hF hc (by simp)⟩⟩
theorem Strs.nil (w : World) : Strs w (.slice none 0 0) [] := ⟨none, 0, rfl, fun _ => rfl, fun j u hj => by simp [strsOf] at hj⟩
theorem Strs.two (w : World) (a b : ByteArray) (x y : Bs) (ha : a = ⟨x.toArray⟩) (hb : b = ⟨y.toArray⟩) : Strs (w.alloc (.cells #[.string a, .string b] 9)) (.slice (some ⟨w.heap.size, 0, none⟩) 2 2) [x, y] := by
  subst ha hb
  refine ⟨_, 2, rfl, (fun h => by cases h), fun j u hj => ⟨_, rfl, ?_⟩⟩
  rw [show (⟨w.heap.size, 0, none⟩ : Addr).add j = ⟨w.heap.size, j, none⟩ by unfold Addr.add; split <;> simp_all, cell_of (Go.Bl.heap_alloc w _)]
  simpa [strsOf] using hj
def hasW (n : Int) : List Bs := if n = 1 then [wWith, wDesc] else if n = 2 then [wWith, wChild] else []
def limitW (n : Int) : List Bs := if n = 0 then [] else [wLimit, digs n.toNat]
def WPost (l : List Bs) (w : World) (e : Ending) (w' : World) : Prop := ∃ v, e = .returned v ∧ Strs w' v l ∧ Fr [] w w'
set_option maxRecDepth 100000 in
theorem hasWords_any (n : Int) (w : World) : Calls Tryz.prog 245 #[.int .i64 n] w (WPost (hasW n) w) := by
  obtain ⟨l, hl⟩ : ∃ l, hasW n = l := ⟨_, rfl⟩
  rw [hl]
  unfold hasW at hl
  go_enter Tryz.func245, Tryz.ntmps245
  by_cases h1 : n = 1
  · subst h1
    rw [if_pos rfl] at hl
    go_wp2_with fail
    go_ret
    exact ⟨_, rfl, by rw [← hl]; exact Strs.two w _ _ _ _ rfl rfl, (Fr.refl _ _).alloc _⟩
  · by_cases h2 : n = 2
    · subst h2
      rw [if_neg (by decide), if_pos rfl] at hl
      go_wp2_with fail
      go_ret
      exact ⟨_, rfl, by rw [← hl]; exact Strs.two w _ _ _ _ rfl rfl, (Fr.refl _ _).alloc _⟩
    · have q1 : (n == 1) = false := by simpa using h1
      have q2 : (n == 2) = false := by simpa using h2
      rw [if_neg h1, if_neg h2] at hl
      go_wp2_with fail
      go_ret
      exact ⟨_, rfl, by rw [← hl]; exact Strs.nil w, Fr.refl _ _⟩
set_option maxRecDepth 100000 in
theorem limitWords_any (n : Int) (h0 : 0 ≤ n) (h1 : n ≤ 1000) (w : World) (hG : GV w) : Calls Tryz.prog 246 #[.int .i64 n] w (WPost (limitW n) w) := by
  obtain ⟨l, hl⟩ : ∃ l, limitW n = l := ⟨_, rfl⟩
  rw [hl]
  unfold limitW at hl
  go_enter Tryz.func246, Tryz.ntmps246
  by_cases hn : n = 0
  · subst hn
    rw [if_pos rfl] at hl
    go_wp2_with fail
    go_ret
    exact ⟨_, rfl, by rw [← hl]; exact Strs.nil w, Fr.refl _ _⟩
  · have q1 : (n == 0) = false := by simpa using hn
    rw [if_neg hn] at hl
    go_wp2_with fail
    refine (itoa_any h0 h1 hG).mono ?_
    rintro e w1 ⟨rfl, hF1⟩
    go_wp2_with fail
    go_ret
    exact ⟨_, rfl, by rw [← hl]; exact Strs.two w1 _ _ _ _ rfl rfl, hF1.alloc _⟩
end Go.Proofs.YtdhmloejgoacaaaGreatDoor
namespace Go.Proofs.YtdhmloejgoacaaaGreatDoor
open Go.RowKit Go.Bl Go.Lq Go.Tq

def nameW (t : St) : List Bs := if t.name ≠ [] then [wNamed, quoteP t.name] else []
def leastW (t : St) : List Bs := if t.least ≠ 0 then [wLeast, spanD t.least] else []
def matW (t : St) : List Bs := if t.mat ≠ [] then [matchText t.mat] else []
theorem newsTwo (w : World) (x y : Value) : ∀ j u, [x, y][j]? = some u → (w.alloc (.cells #[x, y] 9)).cell? ((⟨w.heap.size, 0, none⟩ : Addr).add j) = some u := by
  intro j u hj
  rw [add_at', cell_of (heap_alloc w _)]
  simpa using hj
theorem PRow.push2 {w wa w3 : World} {ps : List Bs} {pv v3 : Value} {S T : ByteArray} {x y : Bs} (h : PRow w ps pv wa) (hg : wa.grownBy w3 pv.ownBlock) (hown : w3.ownsRow w.heap.size 9 1 v3 (ps.length + 2) (strsOf ps ++ [.string S, .string T])) (hS : S = ⟨x.toArray⟩) (hT : T = ⟨y.toArray⟩) : PRow w (ps ++ [x, y]) v3 w3 := by
  refine ⟨?_, h.2.new (fr_grown hg) (fun i hi => (row_old h.1 (Option.mem_toList.1 hi)).1)⟩
  have e1 : (ps ++ [x, y]).length = ps.length + 2 := by simp
  have e2 : strsOf (ps ++ [x, y]) = strsOf ps ++ [.string S, .string T] := by unfold strsOf; rw [hS, hT]; simp
  rw [e1, e2]
  exact hown
theorem Strs.ofRow {w : World} {B : Nat} {v : Value} {l : List Bs} (h : w.ownsRow B 9 1 v l.length (strsOf l)) : Strs w v l := by
  rcases hr : h.2 with ⟨rfl, h0⟩ | ⟨g, cap, cur, rfl, hb, hg, rest⟩
  · have : l = [] := List.eq_nil_of_length_eq_zero h0
    subst this
    exact Strs.nil w
  · refine ⟨_, _, rfl, (fun h => by cases h), fun j u hj => ⟨_, rfl, ?_⟩⟩
    exact h.cells (g := g) rfl _ _ hj
set_option maxRecDepth 100000 in
set_option maxHeartbeats 2000000 in
theorem testWords_any (t : St) (v : Value) (w : World) (hG : GV w) (h8 : 8 ≤ w.heap.size) (hM : Mts w v t.mat) (hn : t.name.length ≤ 1024) (hS : Short t.mat) (hsp : t.least ≠ 0 → spanP t.least ≠ none) :
    Calls Tryz.prog 244 #[.agg #[.string ⟨t.name.toArray⟩, .int .i64 t.least, v]] w (WPost (nameW t ++ leastW t ++ matW t) w) := by
  obtain ⟨i0, hi0, hz0, hz1, hz2⟩ := info_parts infoStr
  obtain ⟨n, hn0⟩ : ∃ n, t.least = n := ⟨_, rfl⟩
  obtain ⟨K, hK⟩ : ∃ K : ByteArray, ⟨t.name.toArray⟩ = K := ⟨_, rfl⟩
  have hKe := empty_iff K
  have hKl : K.data.toList = t.name := by rw [← hK]
  have hKs : K.size ≤ 1024 := by rw [← bytes_len, hKl]; exact hn
  rw [hKl] at hKe
  rw [hK, hn0]
  obtain ⟨x, hx⟩ : ∃ x, decide (t.name = []) = x := ⟨_, rfl⟩
  rw [hx] at hKe
  obtain ⟨L, hL⟩ : ∃ L, nameW t ++ leastW t ++ matW t = L := ⟨_, rfl⟩
  rw [hL]
  have HL := Lib.hid hL
  have HX := Lib.hid hx
  clear hL hx
  obtain ⟨A, cp, rfl, hml, hmx⟩ := id hM
  have hF1 : Fr [] w (w.alloc (.cells #[.string K, .int .i64 n, .slice A t.mat.length cp] 130)) := (Fr.refl _ _).alloc _
  have hC1 := Go.Bl.heap_alloc w (.cells #[.string K, .int .i64 n, .slice A t.mat.length cp] 130)
  have hG1 := hG.frn hF1 h8
  have h81 := Nat.le_trans h8 hF1.size
  have hM1 := hM.fr hF1
  obtain ⟨H, hH⟩ : ∃ H, w.heap.size = H := ⟨_, rfl⟩
  rw [hH] at hC1
  go_enter Tryz.func244, Tryz.ntmps244
  go_upto_region 1 with fail
  obtain ⟨w1, hw1⟩ : ∃ w1, w.alloc (.cells #[.string K, .int .i64 n, .slice A t.mat.length cp] 130) = w1 := ⟨_, rfl⟩
  rw [hw1] at hF1 hC1 hG1 h81 hM1 ⊢
  clear hw1 hM hG
  have cc : ∀ W, Fr [] w1 W → W.cell? ⟨H, 0, none⟩ = some (.string K) ∧ W.cell? ⟨H, 1, none⟩ = some (.int .i64 n) ∧ W.cell? ⟨H, 2, none⟩ = some (.slice A t.mat.length cp) := fun W hW =>
    ⟨cell_frS hW (cell_of hC1 0) (by simp), cell_frS hW (cell_of hC1 1) (by simp), cell_frS hW (cell_of hC1 2) (by simp)⟩
  have HSP := Lib.hid hsp
  have HMX := Lib.hid hmx
  clear hsp hmx
  obtain ⟨c0, c1, c2⟩ := cc w1 (Fr.refl _ _)
  go_upto_if 8 with fail
  go_cut [3] (fun s3 wx => PRow w1 (nameW t) s3 wx)
  case first =>
    cases x
    case true =>
      go_wp2_with fail
      go_meet
      have hk := of_decide_eq_true HX.out
      have hw : nameW t = [] := by unfold nameW; rw [if_neg (by simp [hk])]
      rw [hw]
      exact ⟨World.ownsRow_nil _ _ _ _, Fr.refl _ _⟩
    case false =>
      go_wp2_with fail
      refine (quote_any K hKs _).mono ?_
      rintro e w2 ⟨rfl, hF2⟩
      obtain ⟨Z, hZ⟩ : ∃ Z : ByteArray, ⟨(quoteP K.data.toList).toArray⟩ = Z := ⟨_, rfl⟩
      rw [hZ]
      rw [hKl] at hZ
      have hw2 := hF2.size
      have hP0 : PRow w1 [] (.slice none 0 0) (w2.alloc (.cells #[.string ⟨#[110, 97, 109, 101, 100]⟩, .string Z] 9)) := ⟨World.ownsRow_nil _ _ _ _, hF2.alloc _⟩
      have HP := Lib.hid hP0
      have HZ := Lib.hid hZ
      clear hP0 hZ
      go_wp2_with (at_builtin; refine wpList_append_lies _ rfl (.tmp 9) (.tmp 13) 107 rfl w1.heap.size 9 i0 (.string ⟨#[]⟩) 1 16 Tryz.underlying107 hi0 hz0 hz1 hz2 rfl (by omega) (.slice none 0 0) 0 (strsOf []) (by simp [Act.eval]) HP.out.1 ⟨w2.heap.size, 0, none⟩ 2 2 [.string ⟨#[110, 97, 109, 101, 100]⟩, .string Z] (by simp [Act.eval]) rfl (newsTwo w2 _ _) (by simp [Value.oneCell']) (by omega) (by unfold maxLen; omega) (by omega) (by simp; omega) (w2.heap.size + 1) (by simp) ?_; intro gg cap' w3 hown3 hgrow3 hat3 hlt3)
      go_meet
      have hw : nameW t = [wNamed, quoteP t.name] := by unfold nameW; rw [if_pos (of_decide_eq_false HX.out)]
      rw [hw]
      exact HP.out.push2 hgrow3 hown3 rfl HZ.out.symm
  case rest =>
  obtain ⟨w4, rfl⟩ : ∃ w4, w4 = wc := ⟨_, rfl⟩
  obtain ⟨P1, hP1⟩ : ∃ P1, nameW t = P1 := ⟨_, rfl⟩
  rw [hP1] at hcut
  have hl1 : P1.length ≤ 2 := by rw [← hP1]; unfold nameW; split <;> simp
  obtain ⟨d0, d1, d2⟩ := cc w4 hcut.2
  have hw14 := hcut.2.size
  have hG4 := hG1.frn hcut.2 h81
  have h84 := Nat.le_trans h81 hcut.2.size
  obtain ⟨y, hy⟩ : ∃ y, (n != 0) = y := ⟨_, rfl⟩
  have HP1 := Lib.hid hP1
  have HC := Lib.hid hcut
  clear hP1 hcut c0 c1 c2
  go_upto_if 17 with fail
  go_cut [3] (fun s3 wx => PRow w1 (P1 ++ leastW t) s3 wx)
  case first =>
    cases y
    case false =>
      have HY := Lib.hid hy
      clear hy
      go_wp2_with fail
      go_meet
      have hw : leastW t = [] := by unfold leastW; rw [if_neg]; rw [hn0]; simpa using HY.out
      rw [hw, List.append_nil]
      exact HC.out
    case true =>
      have HY := Lib.hid hy
      clear hy
      go_wp2_with fail
      refine (span_any n _ hG4 h84).mono ?_
      rintro e w5 ⟨hF5, hs⟩
      have hnz : t.least ≠ 0 := by rw [hn0]; simpa using HY.out
      obtain ⟨D, hD⟩ : ∃ D, spanP n = some D := by
        have := HSP.out hnz
        rw [hn0] at this
        exact Option.ne_none_iff_exists'.1 this
      rw [hD] at hs
      obtain rfl := hs
      obtain ⟨Z, hZ⟩ : ∃ Z : ByteArray, ⟨D.toArray⟩ = Z := ⟨_, rfl⟩
      rw [hZ]
      have hw5 := hF5.size
      have HP := Lib.hid (HC.out.fr (hF5.alloc (.cells #[.string ⟨#[108, 101, 97, 115, 116]⟩, .string Z] 9)))
      have HZ := Lib.hid hZ
      have HD := Lib.hid hD
      clear hZ hD hnz
      go_wp2_with (at_builtin; refine wpList_append_lies _ rfl (.tmp 24) (.tmp 26) 107 rfl w1.heap.size 9 i0 (.string ⟨#[]⟩) 1 16 Tryz.underlying107 hi0 hz0 hz1 hz2 rfl (by omega) u3 P1.length (strsOf P1) (by simp [Act.eval]) HP.out.1 ⟨w5.heap.size, 0, none⟩ 2 2 [.string ⟨#[108, 101, 97, 115, 116]⟩, .string Z] (by simp [Act.eval]) rfl (newsTwo w5 _ _) (by simp [Value.oneCell']) (by omega) (by unfold maxLen; omega) (by omega) (by simp; omega) (w5.heap.size + 1) (by simp) ?_; intro gg cap' w3 hown3 hgrow3 hat3 hlt3)
      go_meet
      have hw : leastW t = [wLeast, D] := by
        unfold leastW spanD
        rw [if_pos (by rw [hn0]; simpa using HY.out), hn0, HD.out]
        rfl
      rw [hw]
      exact HP.out.push2 hgrow3 hown3 rfl HZ.out.symm
  case rest =>
  obtain ⟨w6, rfl⟩ : ∃ w6, w6 = wc := ⟨_, rfl⟩
  obtain ⟨P2, hP2⟩ : ∃ P2, P1 ++ leastW t = P2 := ⟨_, rfl⟩
  rw [hP2] at hcut
  have hl2 : P2.length ≤ 4 := by
    rw [← hP2, List.length_append]
    have : (leastW t).length ≤ 2 := by unfold leastW; split <;> simp
    omega
  obtain ⟨e0, e1, e2⟩ := cc w6 hcut.2
  have hw16 := hcut.2.size
  have hM6 := hM1.fr hcut.2
  obtain ⟨z, hz⟩ : ∃ z, decide (0 < t.mat.length) = z := ⟨_, rfl⟩
  have HP2 := Lib.hid hP2
  have HC2 := Lib.hid hcut
  have HM6 := Lib.hid hM6
  clear hP2 hcut d0 d1 d2 hM6 hy
  go_upto_if 31 with fail
  go_cut [3] (fun s3 wx => PRow w1 (P2 ++ matW t) s3 wx)
  case first =>
    cases z
    case false =>
      have HY := Lib.hid hz
      go_wp2_with fail
      go_meet
      have hw : matW t = [] := by
        unfold matW
        rw [if_neg]
        intro h
        apply h
        have := of_decide_eq_false HY.out
        exact List.eq_nil_of_length_eq_zero (by omega)
      rw [hw, List.append_nil]
      exact HC2.out
    case true =>
      have HY := Lib.hid hz
      go_wp2_with fail
      refine (matchText_any t.mat hS _ _ HM6.out).mono ?_
      rintro e w7 ⟨rfl, hF7⟩
      obtain ⟨Z, hZ⟩ : ∃ Z : ByteArray, ⟨(matchText t.mat).toArray⟩ = Z := ⟨_, rfl⟩
      rw [hZ]
      have hw7 := hF7.size
      have HP := Lib.hid (HC2.out.fr (hF7.alloc (.cells #[.string Z] 9)))
      have HZ := Lib.hid hZ
      clear hZ
      go_wp2_with (at_builtin; refine wpList_append_lies _ rfl (.tmp 32) (.tmp 36) 107 rfl w1.heap.size 9 i0 (.string ⟨#[]⟩) 1 16 Tryz.underlying107 hi0 hz0 hz1 hz2 rfl (by omega) u3 P2.length (strsOf P2) (by simp [Act.eval]) HP.out.1 ⟨w7.heap.size, 0, none⟩ 1 1 [.string Z] (by simp [Act.eval]) rfl (newsOne w7 _) (by simp [Value.oneCell']) (by omega) (by unfold maxLen; omega) (by omega) (by simp; omega) (w7.heap.size + 1) (by simp) ?_; intro gg cap' w3 hown3 hgrow3 hat3 hlt3)
      go_meet
      have hw : matW t = [matchText t.mat] := by
        unfold matW
        rw [if_pos]
        intro h
        have := of_decide_eq_true HY.out
        rw [h] at this
        simp at this
      rw [hw]
      exact HP.out.push hgrow3 hown3 HZ.out.symm
  case rest =>
  obtain ⟨w8, rfl⟩ : ∃ w8, w8 = wc := ⟨_, rfl⟩
  have hfin : P2 ++ matW t = L := by rw [← HP2.out, ← HP1.out]; exact HL.out
  rw [hfin] at hcut
  have HC3 := Lib.hid hcut
  clear hfin hcut
  go_wp2_with fail
  go_ret
  exact ⟨_, rfl, Strs.ofRow HC3.out.1, hF1.trans HC3.out.2⟩
end Go.Proofs.YtdhmloejgoacaaaGreatDoor
namespace Go.Proofs.YtdhmloejgoacaaaGreatDoor
open Go.RowKit Go.Bl Go.Lq

set_option maxRecDepth 100000 in
set_option maxHeartbeats 800000 in
theorem eachMatch_any (l : List Mt) (v : Value) (w : World) (hl1 : l.length ≤ 1000) (hM : Mts w v l) :
    Calls Tryz.prog 86 #[v] w fun e w' => e = .returned (.int .i64 (wrongM Lib.validD l)) ∧ Fr [] w w' := by
  obtain ⟨A, cp, rfl, hl, hx⟩ := hM
  have HX := Lib.hid hx
  obtain ⟨ans, hans⟩ : ∃ ans, wrongM Lib.validD l = ans := ⟨_, rfl⟩
  rw [hans]
  have HANS := Lib.hid hans
  clear hx hans
  go_enter Tryz.func86, Tryz.ntmps86
  go_wp2_with fail
  go_loopw [3] (fun iv wr => WrRel w l iv wr) (fun iv _ => l.length - (intOf iv).toNat)
  case atStart => exact ⟨0, rfl, by omega, Fr.refl _ _, rfl⟩
  case round =>
    obtain ⟨k, rfl, hk, hF, hw⟩ := hrel
    by_cases hk2 : k < l.length
    · obtain ⟨ad, rfl, m0, m1, m2⟩ := HX.out k hk2
      have c0 := cell_frS hF m0 (by simp)
      have c1 := cell_frS hF m1 (by simp)
      have c2 := cell_frS hF m2 (by simp)
      have hsp := World.cell?_spot c0
      clear m0 m1 m2
      obtain ⟨m, hm⟩ : ∃ m, l[k] = m := ⟨_, rfl⟩
      rw [List.drop_eq_getElem_cons hk2] at hw
      rw [hm] at c0 c1 c2 hw
      rw [wrongM_cons, HANS.out] at hw
      obtain ⟨K, hK⟩ : ∃ K : ByteArray, ⟨m.key.toArray⟩ = K := ⟨_, rfl⟩
      obtain ⟨V, hV⟩ : ∃ V : ByteArray, ⟨m.val.toArray⟩ = V := ⟨_, rfl⟩
      rw [hK] at c1
      rw [hV] at c2
      have hkl : (k : Int) < (l.length : Int) := by omega
      have hk1 : k + 1 ≤ 100000 := by omega
      have hKl : K.data.toList = m.key := by rw [← hK]
      have hVl : V.data.toList = m.val := by rw [← hV]
      have HW := Lib.hid (And.intro hw hF)
      clear hw hF hm hK hV
      by_cases ho1 : m.op < 1
      · go_wp2_with fail
        go_ret
        refine ⟨?_, HW.out.2⟩
        have := HW.out.1
        rw [if_pos (.inl ho1)] at this
        rw [this]
        rfl
      · by_cases ho2 : m.op > 4
        · go_wp2_with fail
          go_ret
          refine ⟨?_, HW.out.2⟩
          have := HW.out.1
          rw [if_pos (.inr ho2)] at this
          rw [this]
          rfl
        · have HO : Hid (¬ (m.op < 1 ∨ 4 < m.op)) := by show ¬ _; omega
          have hka := keyR_any K wr
          rw [hKl] at hka
          obtain ⟨bk, hbk⟩ : ∃ bk, keyP m.key = bk := ⟨_, rfl⟩
          rw [hbk] at hka
          have HBK := Lib.hid hbk
          clear hbk
          go_wp2_with fail
          refine hka.mono ?_
          rintro e w1 ⟨rfl, hF1⟩
          have d2 := cell_frS hF1 c2 (by simp)
          have HF1 := Lib.hid hF1
          clear hF1 hka c0 c1 c2
          cases bk with
          | false =>
            go_wp2_with fail
            go_ret
            refine ⟨?_, HW.out.2.trans HF1.out⟩
            have := HW.out.1
            rw [if_neg HO.out, HBK.out] at this
            rw [this]
            rfl
          | true =>
            have hpl := textR_plain V w1
            rw [hVl] at hpl
            obtain ⟨bp, hbp⟩ : ∃ bp, plainP Lib.validD m.val = bp := ⟨_, rfl⟩
            rw [hbp] at hpl
            have HBP := Lib.hid hbp
            clear hbp
            go_wp2_with fail
            refine hpl.mono ?_
            rintro e w2 ⟨rfl, hF3⟩
            have hF4 := (HW.out.2.trans HF1.out).trans hF3
            cases bp with
            | false =>
              go_wp2_with fail
              go_ret
              refine ⟨?_, hF4⟩
              have := HW.out.1
              rw [if_neg HO.out, HBK.out, HBP.out] at this
              rw [this]
              rfl
            | true =>
              have hwk : True → wrap64 ((k : Int) + 1) = (k : Int) + 1 := fun _ => wrap_sum (x := k) (c := 1) hk1
              go_wp2_with fail
              refine ⟨⟨k + 1, rfl, hk2, hF4, ?_⟩, by simp [intOf]; omega⟩
              have := HW.out.1
              rw [if_neg HO.out, HBK.out, HBP.out] at this
              rw [HANS.out, this]
              rfl
    · obtain rfl : k = l.length := by omega
      have g1 : ¬ (l.length : Int) < (l.length : Int) := by omega
      rw [List.drop_of_length_le (Nat.le_refl _), HANS.out] at hw
      have HW := Lib.hid (And.intro hw hF)
      clear hw hF
      go_wp2_with fail
      go_ret
      refine ⟨?_, HW.out.2⟩
      rw [HW.out.1]
      rfl
set_option maxRecDepth 100000 in
theorem rightMatchR_any (l : List Mt) (v : Value) (w : World) (hM : Mts w v l) :
    Calls Tryz.prog 52 #[v] w fun e w' => e = .returned (.int .i64 (rightM Lib.validD l)) ∧ Fr [] w w' := by
  obtain ⟨A, cp, rfl, hl, hx⟩ := id hM
  by_cases h : 8 < l.length
  · have hr : rightM Lib.validD l = 7 := by unfold rightM; rw [if_pos h]
    rw [hr]
    have h1 : (l.length : Int) > 8 := by omega
    clear hr hx hM
    go_enter Tryz.func52, Tryz.ntmps52
    go_wp2
    go_ret
    exact ⟨rfl, Fr.refl _ _⟩
  · have hr : rightM Lib.validD l = wrongM Lib.validD l := by unfold rightM; rw [if_neg h]
    rw [hr]
    have hw := eachMatch_any l _ w (by omega) hM
    have h1 : ¬ (l.length : Int) > 8 := by omega
    obtain ⟨ans, hans⟩ : ∃ ans, wrongM Lib.validD l = ans := ⟨_, rfl⟩
    rw [hans] at hw ⊢
    clear hr hx hM hans
    go_enter Tryz.func52, Tryz.ntmps52
    go_wp2_with fail
    refine hw.mono ?_
    rintro e w' ⟨rfl, hF⟩
    go_wp2
    go_ret
    exact ⟨rfl, hF⟩
end Go.Proofs.YtdhmloejgoacaaaGreatDoor
