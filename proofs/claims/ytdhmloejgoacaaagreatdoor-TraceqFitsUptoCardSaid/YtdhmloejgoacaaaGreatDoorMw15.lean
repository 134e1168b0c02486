/- attr.MatchText. -/
import Derived.Test.YtdhmloejgoacaaaGreatDoorMw10
import Derived.Test.YtdhmloejgoacaaaGreatDoorMw02
import Derived.Test.YtdhmloejgoacaaaGreatDoorMw14
import Derived.Test.YtdhmloejgoacaaaGreatDoorMw05
import Derived.Test.YtdhmloejgoacaaaGreatDoorShelf
import Derived.Deep.RegionHeld3
import Derived.Deep.DeepCutAuto
set_option linter.unusedVariables false
set_option linter.unusedSimpArgs false
namespace Go.Proofs.YtdhmloejgoacaaaGreatDoor
open Go.RowKit Go.Bl Go.Lq

/-- No string of the list is long. -/
def Short (l : List Mt) : Prop := l.length ≤ 1000 ∧ ∀ m ∈ l, m.key.length ≤ 1024 ∧ m.val.length ≤ 1024
def mtStr (m : Mt) : Value := .string ⟨(mtText m).toArray⟩
def MTRel (w : World) (l : List Mt) (iv pv : Value) (wr : World) : Prop :=
  ∃ k, iv = .int .i64 ((k : Nat) : Int) ∧ k ≤ l.length ∧ wr.ownsRow w.heap.size 9 1 pv k ((l.take k).map mtStr) ∧ Fr [] w wr
theorem bs_size (l : Bs) : (ByteArray.mk l.toArray).size = l.length := by simp [ByteArray.size]
theorem signP_len (n : Int) : (signP n).length ≤ 2 := by
  unfold signP
  repeat' split
  all_goals simp
theorem quoteP_len (v : Bs) : (quoteP v).length ≤ 2 + 2 * v.length := by
  unfold quoteP
  have h1 := flat_len v
  have h2 : v.countP isQ ≤ v.length := List.countP_le_length
  simp only [List.length_cons, List.length_append, List.length_nil]
  omega

theorem newsOne (w : World) (y : Value) : ∀ j u, [y][j]? = some u → (w.alloc (.cells #[y] 9)).cell? ((⟨w.heap.size, 0, none⟩ : Addr).add j) = some u := by
  intro j u hj
  rw [add_at', cell_of (heap_alloc w _)]
  simpa using hj
set_option maxRecDepth 100000 in
set_option maxHeartbeats 800000 in
theorem matchText_any (l : List Mt) (hS : Short l) (v : Value) (w : World) (hM : Mts w v l) :
    Calls Tryz.prog 77 #[v] w fun e w' => e = .returned (.string ⟨(matchText l).toArray⟩) ∧ Fr [] w w' := by
  obtain ⟨A, cp, rfl, hl, hx⟩ := hM
  obtain ⟨i0, hi0, hz0, hz1, hz2⟩ := info_parts infoStr
  have hlen := hS.1
  have HX := Lib.hid hx
  clear hx
  go_enter Tryz.func77, Tryz.ntmps77
  go_wp2_with fail
  go_loopw [3, 8] (fun pv iv wr => MTRel w l iv pv wr) (fun _ iv _ => l.length - (intOf iv).toNat)
  case atStart => exact ⟨0, rfl, by omega, World.ownsRow_nil _ _ _ _, Fr.refl _ _⟩
  case round =>
    obtain ⟨k, rfl, hk, hrow, hF⟩ := hrel
    by_cases hk2 : k < l.length
    · obtain ⟨ad, rfl, m0, m1, m2⟩ := HX.out k hk2
      have c0 := cell_frS hF m0 (by simp)
      have c1 := cell_frS hF m1 (by simp)
      have c2 := cell_frS hF m2 (by simp)
      have hsp := World.cell?_spot c0
      clear m0 m1 m2
      obtain ⟨m, hm⟩ : ∃ m, l[k] = m := ⟨_, rfl⟩
      rw [hm] at c0 c1 c2
      have hsh := hS.2 m (by rw [← hm]; exact List.getElem_mem _)
      obtain ⟨K, hK⟩ : ∃ K : ByteArray, ⟨m.key.toArray⟩ = K := ⟨_, rfl⟩
      obtain ⟨V, hV⟩ : ∃ V : ByteArray, ⟨m.val.toArray⟩ = V := ⟨_, rfl⟩
      obtain ⟨G, hG⟩ : ∃ G : ByteArray, ⟨(signP m.op).toArray⟩ = G := ⟨_, rfl⟩
      obtain ⟨Z, hZ⟩ : ∃ Z : ByteArray, ⟨(quoteP m.val).toArray⟩ = Z := ⟨_, rfl⟩
      have sK : K.size ≤ 1024 := by rw [← hK, bs_size]; exact hsh.1
      have sV : V.size ≤ 1024 := by rw [← hV, bs_size]; exact hsh.2
      have sG : G.size ≤ 2 := by rw [← hG, bs_size]; exact signP_len _
      have sZ : Z.size ≤ 3000 := by rw [← hZ, bs_size]; have := quoteP_len m.val; omega
      have g1 : ¬ 9223372036854775807 < K.size + G.size := by omega
      have g2 : ¬ 9223372036854775807 < K.size + G.size + Z.size := by omega
      have hsg := sign_any m.op
      rw [hG] at hsg
      have hqt := quote_any V sV
      rw [show V.data.toList = m.val by rw [← hV], hZ] at hqt
      rw [hK] at c1
      rw [hV] at c2
      have hk1 : k + 1 ≤ 100000 := by omega
      have hkl : (k : Int) < (l.length : Int) := by omega
      have hBw := hF.size
      have hcat : mtStr m = .string (K ++ G ++ Z) := by
        unfold mtStr mtText
        rw [← hK, ← hG, ← hZ]
        congr 1
        apply bs_ext
        simp
      have htk : (l.take (k + 1)).map mtStr = (l.take k).map mtStr ++ [.string (K ++ G ++ Z)] := by
        rw [List.take_add_one, List.getElem?_eq_getElem hk2, hm, ← hcat]
        simp
      have HH := Lib.hid (And.intro htk (And.intro hF hrow))
      clear htk hcat hF hrow hK hV hG hZ hsh
      go_wp2_with fail
      go_region_law (first | (refine step_append_lies _ rfl (.tmp 12) (.tmp 23) 107 rfl w.heap.size 9 i0 (.string ⟨#[]⟩) 1 16 Tryz.underlying107 hi0 hz0 hz1 hz2 rfl (by omega) u3 k ((l.take k).map mtStr) (by simp [Act.eval]) (HO.out.alloc _) ⟨w1.heap.size, 0, none⟩ 1 1 [.string (K ++ G ++ Z)] (by simp [Act.eval]) rfl (newsOne w1 _) (by simp [Value.oneCell']) (by omega) (by unfold maxLen; omega) (by omega) (by simp; omega) (w1.heap.size + 1) (by simp) ?_; intro gg cap' w2 hown2 hgrow hat hlt) | (go_simp; go_at_call 102; refine (hsg _).mono ?_; rintro e w' ⟨rfl, rfl⟩) | (go_simp; go_at_call 103; refine (hqt _).mono ?_; rintro e w1 ⟨rfl, hF1⟩; have hEB := hF1.obj (heap_alloc wr (.cells #[.int .i64 m.op, .string K, .string V] 74)) (by simp); have j0 := cell_of hEB 0; have j1 := cell_of hEB 1; have j2 := cell_of hEB 2; simp only [List.getElem?_toArray, List.getElem?_cons_zero, List.getElem?_cons_succ] at j0 j1 j2; have hFF := ((Fr.refl [] wr).alloc (.cells #[.int .i64 m.op, .string K, .string V] 74)).trans hF1.of_drew; have HO := Lib.hid (row_fr HH.out.2.2 hFF (by simp)); have HFF := Lib.hid hFF; have hs1 := hFF.size; clear hEB hFF))
      all_goals
        go_wp2_with fail
        have hr2 : w2.ownsRow w.heap.size 9 1 (.slice (some ⟨gg, 0, none⟩) (k + 1) cap') (k + 1) ((l.take (k + 1)).map mtStr) := by
          rw [HH.out.1]
          exact hown2
        have hf2 : Fr [] w w2 := (HH.out.2.1.trans (HFF.out.alloc _)).new (fr_grown hgrow) (fun i hi => (row_old HH.out.2.2 (Option.mem_toList.1 hi)).1)
        exact ⟨⟨k + 1, rfl, hk2, hr2, hf2⟩, by simp [intOf]; omega⟩
    · obtain rfl : k = l.length := by omega
      have g1 : ¬ (l.length : Int) < (l.length : Int) := by omega
      rw [List.take_of_length_le (Nat.le_refl _)] at hrow
      obtain ⟨J, hJ⟩ : ∃ J : ByteArray, ⟨(joinP [44, 32] (l.map mtText)).toArray⟩ = J := ⟨_, rfl⟩
      have hjl : (joinP [44, 32] (l.map mtText)).length ≤ 8000000 := by
        refine Nat.le_trans (joinP_len [44, 32] 4000 (l.map mtText) (fun x hx => ?_)) (by rw [List.length_map]; simp only [List.length_cons, List.length_nil]; omega)
        obtain ⟨m, hm, rfl⟩ := List.mem_map.1 hx
        have h1 := hS.2 m hm
        have h2 := signP_len m.op
        have h3 := quoteP_len m.val
        unfold mtText
        rw [List.length_append, List.length_append]
        omega
      have sJ : J.size ≤ 8000000 := by rw [← hJ, bs_size]; exact hjl
      have g2 : ¬ 9223372036854775807 < 1 + J.size := by omega
      have g3 : ¬ 9223372036854775807 < 1 + J.size + 1 := by omega
      have hjoin : Calls Tryz.prog 80 #[u3, .string ⟨#[44, 32]⟩] wr fun e w' => e = .returned (.string J) ∧ Below wr.heap.size wr w' := by
        rcases Nat.eq_zero_or_pos l.length with h0 | h0
        · have hl0 : l = [] := List.eq_nil_of_length_eq_zero h0
          subst hl0
          have hu : ∃ A c, u3 = .slice A 0 c := by
            rcases hrow.2 with ⟨rfl, _⟩ | ⟨g, cap, cur, rfl, _⟩
            · exact ⟨_, _, rfl⟩
            · exact ⟨_, _, rfl⟩
          obtain ⟨A0, c0, rfl⟩ := hu
          refine (Tryz.strings_Join_none A0 c0 ⟨#[44, 32]⟩ wr).mono ?_
          rintro e w' ⟨rfl, rfl⟩
          exact ⟨by rw [← hJ]; rfl, Below.refl _ _⟩
        · obtain ⟨g, cap, rfl, hg1, hg2⟩ := hrow.form h0
          have hcap : l.length ≤ cap := by
            rcases hrow.2 with ⟨h, _⟩ | ⟨g', cap', cur, h, _, _, h5, _⟩
            · cases h
            · cases h; exact h5
          have hJn := Tryz.strings_Join g 0 cap (l.map fun m => ⟨(mtText m).toArray⟩) ⟨#[44, 32]⟩ wr (fun j x hx => by
            rw [List.getElem?_map] at hx
            obtain ⟨m, hm, rfl⟩ := Option.map_eq_some_iff.1 hx
            have := hrow.cells (g := g) rfl j (mtStr m) (by rw [List.getElem?_map, hm]; rfl)
            rw [add_at'] at this
            rw [Nat.zero_add]
            exact this) hg2 (by rw [List.length_map]; omega) (by rw [List.length_map]; exact hcap) (by
            rw [joinP_inter, List.map_map]
            exact Nat.le_trans hjl (by omega))
          rw [List.length_map, joinP_inter, List.map_map] at hJn
          refine hJn.mono ?_
          rintro e w' ⟨rfl, hb⟩
          refine ⟨?_, hb⟩
          rw [← hJ]
          rfl
      have hmt : (ByteArray.mk #[123] ++ J ++ ByteArray.mk #[125]) = ⟨(matchText l).toArray⟩ := by
        apply bs_ext
        rw [← hJ]
        simp [matchText]
      have HH := Lib.hid (And.intro hmt hF)
      clear hmt hF hrow hJ hjl
      go_wp2_with fail
      refine hjoin.mono ?_
      rintro e w1 ⟨rfl, hb⟩
      go_wp2_with fail
      go_ret
      refine ⟨?_, HH.out.2.trans (fr_newR hb [])⟩
      rw [← HH.out.1]
      rfl
end Go.Proofs.YtdhmloejgoacaaaGreatDoor
namespace Go.Proofs.YtdhmloejgoacaaaGreatDoor
open Go.RowKit Go.Bl Go.Lq

def qk (s : ByteArray) (k : Nat) : Bs := 34 :: (s.data.toList.take k).flatMap esc
def QRR (s : ByteArray) (w : World) (iv pv : Value) (wr : World) : Prop :=
  ∃ k, iv = .int .i64 ((k : Nat) : Int) ∧ k ≤ s.size ∧ wr.ownsRow w.heap.size 5 1 pv (qk s k).length (Lib.byteCells (qk s k)) ∧ Fr [] w wr
theorem qk_len (s : ByteArray) (k : Nat) : (qk s k).length ≤ 1 + 2 * s.size := by
  unfold qk
  have h1 := flat_len (s.data.toList.take k)
  have h2 : (s.data.toList.take k).countP isQ ≤ (s.data.toList.take k).length := List.countP_le_length
  have h3 : (s.data.toList.take k).length ≤ s.size := by rw [List.length_take, bytes_len]; omega
  rw [List.length_cons, h1]
  omega
theorem qk_succ {s : ByteArray} {k : Nat} {c : UInt8} (hk : k < s.size) (hc : s[k] = c) : qk s (k + 1) = qk s k ++ esc c := by
  unfold qk
  rw [List.take_add_one, List.getElem?_eq_getElem (by rw [bytes_len]; exact hk)]
  have : s.data.toList[k]'(by rw [bytes_len]; exact hk) = c := by rw [← hc]; cases s; rfl
  rw [this]
  simp
theorem row_push {w wr w2 : World} {s : ByteArray} {k : Nat} {pv v2 : Value} (e : Bs) (hrow : wr.ownsRow w.heap.size 5 1 pv (qk s k).length (Lib.byteCells (qk s k))) (hq : qk s (k + 1) = qk s k ++ e)
    (hown : w2.ownsRow w.heap.size 5 1 v2 ((qk s k).length + e.length) (Lib.byteCells (qk s k) ++ Lib.byteCells e)) : w2.ownsRow w.heap.size 5 1 v2 (qk s (k + 1)).length (Lib.byteCells (qk s (k + 1))) := by
  rw [hq, Lib.byteCells_append, List.length_append]
  exact hown
set_option maxRecDepth 100000 in
set_option maxHeartbeats 800000 in
theorem quoteR_any (s : ByteArray) (hs : s.size ≤ 1024) (w : World) :
    Calls Tryz.prog 83 #[.string s] w fun e w' => e = .returned (.string ⟨(quoteP s.data.toList).toArray⟩) ∧ Fr [] w w' := by
  obtain ⟨i0, hi0, hz0, hz1, hz2⟩ := info_parts infoU8
  have hr0 : (w.alloc (.cells #[.int .u8 34] 5)).ownsRow w.heap.size 5 1 (.slice (some ⟨w.heap.size, 0, none⟩) 1 1) (qk s 0).length (Lib.byteCells (qk s 0)) :=
    ⟨rfl, .inr ⟨_, _, _, rfl, Nat.le_refl _, heap_alloc w _, Nat.le_refl _, by unfold maxLen; omega, rfl, rfl⟩⟩
  have HR0 := Lib.hid hr0
  clear hr0
  go_enter Tryz.func83, Tryz.ntmps83
  go_wp2_with fail
  go_loopw [4, 3] (fun iv pv wr => QRR s w iv pv wr) (fun iv _ _ => s.size - (intOf iv).toNat)
  case atStart => exact ⟨0, rfl, Nat.zero_le _, HR0.out, (Fr.refl _ _).alloc _⟩
  case round =>
    obtain ⟨k, rfl, hk, hrow, hF⟩ := hrel
    have hql := qk_len s k
    obtain ⟨N, hN⟩ : ∃ N, (qk s k).length = N := ⟨_, rfl⟩
    obtain ⟨L, hL⟩ : ∃ L, Lib.byteCells (qk s k) = L := ⟨_, rfl⟩
    rw [hN] at hql
    have hBw := hF.size
    by_cases hk2 : k < s.size
    · have g3 : (k : Int) < (s.size : Int) := by omega
      have g4 : (0 : Int) ≤ (k : Int) ∧ (k : Int) < (s.size : Int) := by omega
      obtain ⟨d, hd2⟩ : ∃ d, s[k] = d := ⟨_, rfl⟩
      have hqs := qk_succ hk2 hd2
      have hkk : k + 1 ≤ 100000 := by omega
      have hwk : True → wrap64 ((k : Int) + 1) = (k : Int) + 1 := fun _ => wrap_sum (x := k) (c := 1) hkk
      have b1 : ((d.toNat : Int) == 34) = decide (d = 34) := beq_u8 d 34 (by omega)
      have b2 : ((d.toNat : Int) == 92) = decide (d = 92) := beq_u8 d 92 (by omega)
      have b3 : ((d.toNat : Int) == 10) = decide (d = 10) := beq_u8 d 10 (by omega)
      have HRA := Lib.hid (And.intro hrow (And.intro hqs (And.intro hF (And.intro hN hL))))
      rw [hN, hL] at hrow
      have HRB := Lib.hid hrow
      clear hrow hqs hF hN hL
      by_cases hq : d = 34 ∨ d = 92
      · have hx : esc d = [92, d] := by rcases hq with rfl | rfl <;> rfl
        have HX := Lib.hid hx
        clear hx
        obtain ⟨z1, hz1'⟩ : ∃ z, decide (d = 34) = z := ⟨_, rfl⟩
        obtain ⟨z2, hz2'⟩ : ∃ z, decide (d = 92) = z := ⟨_, rfl⟩
        rw [hz1'] at b1
        rw [hz2'] at b2
        have hor : z1 = false → z2 = true := by
          intro h
          rw [← hz1'] at h
          rw [← hz2']
          rcases hq with h1 | h1
          · simp [h1] at h
          · simp [h1]
        have HOR := Lib.hid hor
        clear hor hq hz1' hz2' b3
        cases z1 with
        | true =>
          go_wp2_with (at_builtin; refine wpList_append_lies _ rfl (.tmp 24) (.tmp 28) 140 rfl w.heap.size 5 i0 (.int .u8 0) 1 1 Tryz.underlying140 hi0 hz0 hz1 hz2 rfl (by omega) u3 N L (by simp [Act.eval]) (HRB.out.alloc _) ⟨wr.heap.size, 0, none⟩ 2 2 [.int .u8 92, .int .u8 d.toNat] (by simp [Act.eval]) rfl (World.news_of_block (heap_alloc wr _)) (by simp [Value.oneCell']) (by omega) (by unfold maxLen; omega) (by omega) (by simp; omega) (wr.heap.size + 1) (by simp) ?_; intro gg cap' w2 hown2 hgrow hat hlt)
          obtain ⟨hrow, hqs, hF, hN, hL⟩ := HRA.out
          have hf2 : Fr [] w w2 := (hF.alloc _).new (fr_grown hgrow) (fun i hi => (row_old hrow (Option.mem_toList.1 hi)).1)
          subst hN hL
          exact ⟨⟨k + 1, rfl, hk2, row_push ([92, d]) hrow (by rw [hqs, HX.out]) hown2, hf2⟩, by simp [intOf]; omega⟩
        | false =>
          have hz := HOR.out rfl
          subst hz
          go_wp2_with (at_builtin; refine wpList_append_lies _ rfl (.tmp 24) (.tmp 28) 140 rfl w.heap.size 5 i0 (.int .u8 0) 1 1 Tryz.underlying140 hi0 hz0 hz1 hz2 rfl (by omega) u3 N L (by simp [Act.eval]) (HRB.out.alloc _) ⟨wr.heap.size, 0, none⟩ 2 2 [.int .u8 92, .int .u8 d.toNat] (by simp [Act.eval]) rfl (World.news_of_block (heap_alloc wr _)) (by simp [Value.oneCell']) (by omega) (by unfold maxLen; omega) (by omega) (by simp; omega) (wr.heap.size + 1) (by simp) ?_; intro gg cap' w2 hown2 hgrow hat hlt)
          obtain ⟨hrow, hqs, hF, hN, hL⟩ := HRA.out
          have hf2 : Fr [] w w2 := (hF.alloc _).new (fr_grown hgrow) (fun i hi => (row_old hrow (Option.mem_toList.1 hi)).1)
          subst hN hL
          exact ⟨⟨k + 1, rfl, hk2, row_push ([92, d]) hrow (by rw [hqs, HX.out]) hown2, hf2⟩, by simp [intOf]; omega⟩
      · have q1 : ¬ d = 34 := fun h => hq (.inl h)
        have q2 : ¬ d = 92 := fun h => hq (.inr h)
        rw [decide_eq_false q1] at b1
        rw [decide_eq_false q2] at b2
        by_cases h3 : d = 10
        · rw [decide_eq_true h3] at b3
          have hx : esc d = [92, 110] := by rw [h3]; rfl
          have HX := Lib.hid hx
          clear hx h3 hq q1 q2
          go_wp2_with (at_builtin; refine wpList_append_lies _ rfl (.tmp 32) (.tmp 33) 140 rfl w.heap.size 5 i0 (.int .u8 0) 1 1 Tryz.underlying140 hi0 hz0 hz1 hz2 rfl (by omega) u3 N L (by simp [Act.eval]) (HRB.out.alloc _) ⟨wr.heap.size, 0, none⟩ 2 2 [.int .u8 92, .int .u8 110] (by simp [Act.eval]) rfl (World.news_of_block (heap_alloc wr _)) (by simp [Value.oneCell']) (by omega) (by unfold maxLen; omega) (by omega) (by simp; omega) (wr.heap.size + 1) (by simp) ?_; intro gg cap' w2 hown2 hgrow hat hlt)
          obtain ⟨hrow, hqs, hF, hN, hL⟩ := HRA.out
          have hf2 : Fr [] w w2 := (hF.alloc _).new (fr_grown hgrow) (fun i hi => (row_old hrow (Option.mem_toList.1 hi)).1)
          subst hN hL
          exact ⟨⟨k + 1, rfl, hk2, row_push ([92, 110]) hrow (by rw [hqs, HX.out]) hown2, hf2⟩, by simp [intOf]; omega⟩
        · rw [decide_eq_false h3] at b3
          have hx : esc d = [d] := by unfold esc; rw [if_neg q1, if_neg q2, if_neg h3]
          have HX := Lib.hid hx
          clear hx h3 hq q1 q2
          go_wp2_with (at_builtin; refine wpList_append_lies _ rfl (.tmp 15) (.tmp 19) 140 rfl w.heap.size 5 i0 (.int .u8 0) 1 1 Tryz.underlying140 hi0 hz0 hz1 hz2 rfl (by omega) u3 N L (by simp [Act.eval]) (HRB.out.alloc _) ⟨wr.heap.size, 0, none⟩ 1 1 [.int .u8 d.toNat] (by simp [Act.eval]) rfl (World.news_of_block (heap_alloc wr _)) (by simp [Value.oneCell']) (by omega) (by unfold maxLen; omega) (by omega) (by simp; omega) (wr.heap.size + 1) (by simp) ?_; intro gg cap' w2 hown2 hgrow hat hlt)
          obtain ⟨hrow, hqs, hF, hN, hL⟩ := HRA.out
          have hf2 : Fr [] w w2 := (hF.alloc _).new (fr_grown hgrow) (fun i hi => (row_old hrow (Option.mem_toList.1 hi)).1)
          subst hN hL
          exact ⟨⟨k + 1, rfl, hk2, row_push ([d]) hrow (by rw [hqs, HX.out]) hown2, hf2⟩, by simp [intOf]; omega⟩
    · obtain rfl : k = s.size := by omega
      have g3 : ¬ (s.size : Int) < (s.size : Int) := by omega
      have hfull : quoteP s.data.toList = qk s s.size ++ [34] := by
        unfold qk quoteP
        rw [List.take_of_length_le (by rw [bytes_len]; exact Nat.le_refl _)]
        rfl
      have HFU := Lib.hid (And.intro hfull (And.intro hF (And.intro hN hL)))
      have HRA := Lib.hid hrow
      rw [hN, hL] at hrow
      have HRB := Lib.hid hrow
      clear hrow hfull hF hN hL
      go_wp2_with (at_builtin; refine wpList_append_lies _ rfl (.tmp 35) (.tmp 36) 140 rfl w.heap.size 5 i0 (.int .u8 0) 1 1 Tryz.underlying140 hi0 hz0 hz1 hz2 rfl (by omega) u3 N L (by simp [Act.eval]) (HRB.out.alloc _) ⟨wr.heap.size, 0, none⟩ 1 1 [.int .u8 34] (by simp [Act.eval]) rfl (World.news_of_block (heap_alloc wr _)) (by simp [Value.oneCell']) (by omega) (by unfold maxLen; omega) (by omega) (by simp; omega) (wr.heap.size + 1) (by simp) ?_; intro gg cap' w2 hown2 hgrow hat hlt)
      have hqlen : (quoteP s.data.toList).length = N + 1 := by rw [HFU.out.1, List.length_append, HFU.out.2.2.1]; rfl
      have hcv := run_convert_bytes_back w2 140 9 5 ⟨gg, 0, none⟩ cap' (quoteP s.data.toList) Tryz.underlying140 Tryz.underlying5 Tryz.underlying9 (by
        intro j hj
        refine hown2.cells (g := gg) rfl j _ ?_
        rw [← HFU.out.2.2.2, show ([Value.int .u8 34] : List Value) = Lib.byteCells [34] from rfl, ← Lib.byteCells_append, ← HFU.out.1]
        unfold Lib.byteCells
        rw [List.getElem?_map, List.getElem?_eq_getElem hj]
        rfl)
      rw [hqlen] at hcv
      have hf2 : Fr [] w w2 := (HFU.out.2.1.alloc _).new (fr_grown hgrow) (fun i hi => (row_old HRA.out (Option.mem_toList.1 hi)).1)
      have HF2 := Lib.hid hf2
      clear hf2 hqlen hown2 hgrow hat hlt
      rw [hcv]
      go_wp2_with fail
      go_ret
      exact ⟨rfl, HF2.out⟩
end Go.Proofs.YtdhmloejgoacaaaGreatDoor
namespace Go.Proofs.YtdhmloejgoacaaaGreatDoor
open Go.RowKit Go.Bl Go.Lq

set_option maxRecDepth 100000 in
set_option maxHeartbeats 800000 in
theorem opR_any (n : Int) (w : World) : Calls Tryz.prog 82 #[.int .i64 n] w fun e w' => e = .returned (.string ⟨(signP n).toArray⟩) ∧ Fr [] w w' := by
  by_cases h1 : n < 1
  · have hs : signP n = [] := by unfold signP; rw [if_neg (by omega), if_neg (by omega), if_neg (by omega), if_neg (by omega)]
    rw [hs]
    clear hs
    go_enter Tryz.func82, Tryz.ntmps82
    go_wp2
    go_ret
    exact ⟨rfl, Fr.refl _ _⟩
  · by_cases h4 : n > 4
    · have hs : signP n = [] := by unfold signP; rw [if_neg (by omega), if_neg (by omega), if_neg (by omega), if_neg (by omega)]
      rw [hs]
      clear hs
      go_enter Tryz.func82, Tryz.ntmps82
      go_wp2
      go_ret
      exact ⟨rfl, Fr.refl _ _⟩
    · rcases (by omega : n = 1 ∨ n = 2 ∨ n = 3 ∨ n = 4) with rfl | rfl | rfl | rfl
      all_goals
        clear h1 h4
        go_enter Tryz.func82, Tryz.ntmps82
        go_wp2
        go_ret
        exact ⟨rfl, (Fr.refl _ _).alloc _⟩
end Go.Proofs.YtdhmloejgoacaaaGreatDoor
namespace Go.Proofs.YtdhmloejgoacaaaGreatDoor
open Go.RowKit Go.Bl Go.Lq

theorem mtText_len {m : Mt} (h : m.key.length ≤ 1024 ∧ m.val.length ≤ 1024) : (mtText m).length ≤ 4000 := by
  have h2 := signP_len m.op
  have h3 := quoteP_len m.val
  unfold mtText
  rw [List.length_append, List.length_append]
  omega
theorem openP_len {l : List Mt} (h : ∀ m ∈ l, m.key.length ≤ 1024 ∧ m.val.length ≤ 1024) : (openP l).length ≤ 1 + l.length * 4002 := by
  have hc : ∀ l : List Mt, (∀ m ∈ l, m.key.length ≤ 1024 ∧ m.val.length ≤ 1024) → (commaP l).length ≤ l.length * 4002 := by
    intro l
    induction l with
    | nil => intro _; simp [commaP]
    | cons x xs ih =>
      intro h
      have h1 := ih (fun m hm => h m (by simp [hm]))
      have h2 := mtText_len (h x (by simp))
      simp only [commaP, List.length_cons, List.length_append]
      omega
  cases l with
  | nil => simp [openP]
  | cons x xs =>
    have h1 := hc xs (fun m hm => h m (by simp [hm]))
    have h2 := mtText_len (h x (by simp))
    simp only [openP, List.length_cons, List.length_append]
    omega
def MTR (l : List Mt) (w : World) (iv sv : Value) (wr : World) : Prop :=
  ∃ k, iv = .int .i64 ((k : Nat) : Int) ∧ k ≤ l.length ∧ sv = .string ⟨(openP (l.take k)).toArray⟩ ∧ Fr [] w wr
set_option maxRecDepth 100000 in
set_option maxHeartbeats 800000 in
theorem matchTextR_any (l : List Mt) (hS : Short l) (v : Value) (w : World) (hM : Mts w v l) :
    Calls Tryz.prog 81 #[v] w fun e w' => e = .returned (.string ⟨(matchText l).toArray⟩) ∧ Fr [] w w' := by
  obtain ⟨A, cp, rfl, hl, hx⟩ := hM
  have hlen := hS.1
  have HX := Lib.hid hx
  clear hx
  go_enter Tryz.func81, Tryz.ntmps81
  go_wp2_with fail
  go_loopw [4, 3] (fun iv sv wr => MTR l w iv sv wr) (fun iv _ _ => l.length - (intOf iv).toNat)
  case atStart => exact ⟨0, rfl, by omega, rfl, Fr.refl _ _⟩
  case round =>
    obtain ⟨k, rfl, hk, rfl, hF⟩ := hrel
    have hol := openP_len (l := l.take k) (fun m hm => hS.2 m (List.mem_of_mem_take hm))
    rw [List.length_take] at hol
    obtain ⟨S, hSS⟩ : ∃ S : ByteArray, ⟨(openP (l.take k)).toArray⟩ = S := ⟨_, rfl⟩
    have sS : S.size ≤ 8000000 := by rw [← hSS, bs_size]; omega
    rw [hSS]
    by_cases hk2 : k < l.length
    · obtain ⟨ad, rfl, m0, m1, m2⟩ := HX.out k hk2
      have c0 := cell_frS hF m0 (by simp)
      have c1 := cell_frS hF m1 (by simp)
      have c2 := cell_frS hF m2 (by simp)
      have hsp := World.cell?_spot c0
      clear m0 m1 m2
      obtain ⟨m, hm⟩ : ∃ m, l[k] = m := ⟨_, rfl⟩
      rw [hm] at c0 c1 c2
      have hsh := hS.2 m (by rw [← hm]; exact List.getElem_mem _)
      have hsnoc : openP (l.take (k + 1)) = openP (l.take k) ++ ((if l.take k = [] then [] else [44, 32]) ++ mtText m) := by
        rw [List.take_add_one, List.getElem?_eq_getElem hk2, hm]
        exact openP_snoc _ _
      obtain ⟨K, hK⟩ : ∃ K : ByteArray, ⟨m.key.toArray⟩ = K := ⟨_, rfl⟩
      obtain ⟨V, hV⟩ : ∃ V : ByteArray, ⟨m.val.toArray⟩ = V := ⟨_, rfl⟩
      obtain ⟨G, hG⟩ : ∃ G : ByteArray, ⟨(signP m.op).toArray⟩ = G := ⟨_, rfl⟩
      obtain ⟨Z, hZ⟩ : ∃ Z : ByteArray, ⟨(quoteP m.val).toArray⟩ = Z := ⟨_, rfl⟩
      obtain ⟨P1, hP1⟩ : ∃ P1 : ByteArray, ByteArray.mk (openP (l.take k) ++ (if l.take k = [] then [] else [44, 32])).toArray = P1 := ⟨_, rfl⟩
      have sK : K.size ≤ 1024 := by rw [← hK, bs_size]; exact hsh.1
      have sV : V.size ≤ 1024 := by rw [← hV, bs_size]; exact hsh.2
      have sG : G.size ≤ 2 := by rw [← hG, bs_size]; exact signP_len _
      have sZ : Z.size ≤ 3000 := by rw [← hZ, bs_size]; have := quoteP_len m.val; omega
      have sP : P1.size ≤ 8000002 := by
        rw [← hP1, bs_size, List.length_append]
        have h1 : (openP (l.take k)).length ≤ 8000000 := by rw [← hSS, bs_size] at sS; exact sS
        split <;> simp <;> omega
      rw [hK] at c1
      rw [hV] at c2
      have hqt := quoteR_any V sV
      rw [show V.data.toList = m.val by rw [← hV], hZ] at hqt
      have hk1 : k + 1 ≤ 100000 := by omega
      have hkl : (k : Int) < (l.length : Int) := by omega
      have hcat : (P1 ++ K ++ G ++ Z) = ⟨(openP (l.take (k + 1))).toArray⟩ := by
        apply bs_ext
        rw [hsnoc, ← hP1, ← hK, ← hG, ← hZ]
        simp [mtText]
      have hP0 : l.take k = [] → P1 = S := by
        intro h
        rw [← hP1, ← hSS, if_pos h, List.append_nil]
      have hP2 : l.take k ≠ [] → P1 = S ++ ⟨#[44, 32]⟩ := by
        intro h
        rw [← hP1, ← hSS, if_neg h]
        apply bs_ext
        simp
      have htk : l.take k = [] ↔ k = 0 := by
        rw [List.take_eq_nil_iff]
        constructor
        · rintro (h | h)
          · exact h
          · rw [h] at hk2; simp at hk2
        · exact .inl
      rw [ne_eq, htk] at hP2
      rw [htk] at hP0
      have HH := Lib.hid (And.intro hcat (And.intro hF (And.intro hP0 (And.intro hP2 hG))))
      clear hcat hF hP0 hP2 htk hsnoc hK hV hG hZ hP1 hSS hsh hm hol
      obtain ⟨op, hop⟩ : ∃ op, m.op = op := ⟨_, rfl⟩
      rw [hop] at c0
      have HOP := Lib.hid hop
      clear hop
      go_upto_if 13 with fail
      go_cut [3] (fun s3 wx => s3 = .string P1 ∧ Fr [] wr wx)
      case first =>
        have g0 : ¬ 9223372036854775807 < S.size + 2 := by omega
        by_cases hk0 : k = 0
        · have e1 := HH.out.2.2.1 hk0
          have g1 : ¬ (k : Int) > 0 := by omega
          have g2 : ¬ k > 0 := by omega
          have E1 := Lib.hid e1
          clear e1 hk0
          go_wp2_with fail
          go_meet
          exact ⟨by rw [E1.out], Fr.refl _ _⟩
        · have e1 := HH.out.2.2.2.1 hk0
          have g1 : (k : Int) > 0 := by omega
          have g2 : k > 0 := by omega
          have E1 := Lib.hid e1
          clear e1 hk0
          go_wp2_with fail
          go_meet
          exact ⟨by rw [E1.out], Fr.refl _ _⟩
      case rest =>
        obtain ⟨rfl, hFc⟩ := hcut
        have d0 := cell_frS hFc c0 (by simp)
        have d1 := cell_frS hFc c1 (by simp)
        have d2 := cell_frS hFc c2 (by simp)
        have HFc := Lib.hid hFc
        clear hFc c0 c1 c2
        obtain ⟨wd, rfl⟩ : ∃ wd, wd = wc := ⟨_, rfl⟩
        obtain ⟨bo, hbo⟩ : ∃ bo, decide (1 ≤ op ∧ op ≤ 4) = bo := ⟨_, rfl⟩
        have HBO := Lib.hid hbo
        clear hbo
        go_upto_region 8 with fail
        go_cut [29] (fun s29 wx => s29 = .bool bo ∧ wx = wd)
        case first =>
          by_cases o1 : op ≥ 1
          · by_cases o2 : op ≤ 4
            · go_wp2_with fail
              go_meet
              exact ⟨by rw [← HBO.out, decide_eq_true (by omega)], rfl⟩
            · go_wp2_with fail
              go_meet
              exact ⟨by rw [← HBO.out, decide_eq_false (by omega)], rfl⟩
          · go_wp2_with fail
            go_meet
            exact ⟨by rw [← HBO.out, decide_eq_false (by omega)], rfl⟩
        case rest =>
          obtain ⟨rfl, rfl⟩ := hcut
          obtain ⟨wd, rfl⟩ : ∃ wd, wd = wc := ⟨_, rfl⟩
          go_upto_if 29 with fail
          go_cut [5] (fun s5 wx => s5 = .string G ∧ Fr [] wd wx)
          case first =>
            cases bo with
            | false =>
              go_wp2_with fail
              go_meet
              have ho := of_decide_eq_false HBO.out
              have hs : signP op = [] := by unfold signP; rw [if_neg (by omega), if_neg (by omega), if_neg (by omega), if_neg (by omega)]
              exact ⟨by rw [← HH.out.2.2.2.2, HOP.out, hs], Fr.refl _ _⟩
            | true =>
              have ho := of_decide_eq_true HBO.out
              rcases (by omega : op = 1 ∨ op = 2 ∨ op = 3 ∨ op = 4) with rfl | rfl | rfl | rfl
              all_goals
                clear ho
                have d0a := cell_frS ((Fr.refl [] wd).alloc (.cells #[.string ⟨#[]⟩, .string ⟨#[61]⟩, .string ⟨#[33, 61]⟩, .string ⟨#[61, 126]⟩, .string ⟨#[33, 126]⟩] 9)) d0 (by simp)
                go_wp2_with fail
                go_meet
                exact ⟨by rw [← HH.out.2.2.2.2, HOP.out]; rfl, (Fr.refl _ _).alloc _⟩
          case rest =>
            obtain ⟨rfl, hFd⟩ := hcut
            have e1 := cell_frS hFd d1 (by simp)
            have e2 := cell_frS hFd d2 (by simp)
            have hFe := HFc.out.trans hFd
            have HFe := Lib.hid hFe
            have g3 : ¬ 9223372036854775807 < P1.size + K.size := by omega
            have g4 : ¬ 9223372036854775807 < P1.size + K.size + G.size := by omega
            have g5 : ¬ 9223372036854775807 < P1.size + K.size + G.size + Z.size := by omega
            clear hFe hFd d0 d1 d2
            go_wp2_with fail
            go_region_law (go_simp; go_at_call 83; refine (hqt _).mono ?_; rintro e w1 ⟨rfl, hF1⟩; have j1 := cell_frS hF1.of_drew e1 (by simp); have j2 := cell_frS hF1.of_drew e2 (by simp); have HF1 := Lib.hid hF1.of_drew; clear hF1)
            all_goals
              go_wp2_with fail
              refine ⟨⟨k + 1, rfl, hk2, ?_, ?_⟩, by simp [intOf]; omega⟩
              · rw [← HH.out.1]
              · exact ((HH.out.2.1.trans HFe.out).trans HF1.out)
    · obtain rfl : k = l.length := by omega
      have g1 : ¬ (l.length : Int) < (l.length : Int) := by omega
      have g2 : ¬ 9223372036854775807 < S.size + 1 := by omega
      have hfin : S ++ ⟨#[125]⟩ = ⟨(matchText l).toArray⟩ := by
        rw [List.take_of_length_le (Nat.le_refl _)] at hSS
        apply bs_ext
        rw [← hSS, ← openP_text]
        simp
      have HFI := Lib.hid (And.intro hfin hF)
      clear hfin hF hSS hol
      go_wp2_with fail
      go_ret
      refine ⟨?_, HFI.out.2⟩
      rw [← HFI.out.1]
      rfl
end Go.Proofs.YtdhmloejgoacaaaGreatDoor
