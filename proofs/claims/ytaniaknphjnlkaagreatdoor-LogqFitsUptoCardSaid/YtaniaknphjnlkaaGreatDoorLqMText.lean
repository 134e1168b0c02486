/- attr.MatchText. -/
import Derived.Test.YtaniaknphjnlkaaGreatDoorMf12
import Derived.Test.YtaniaknphjnlkaaGreatDoorMf14
import Derived.Test.YtaniaknphjnlkaaGreatDoorLqJoinP
import Derived.Test.YtaniaknphjnlkaaGreatDoorMf05
import Derived.Test.YtaniaknphjnlkaaGreatDoorShelf
import Derived.Deep.RegionHeld3
namespace Go.Proofs.YtaniaknphjnlkaaGreatDoor
open Go.RowKit Go.Bl Go.Lq

/-- No string of the list is long. -/
def Short (l : List Mt) : Prop := l.length ≤ 1000 ∧ ∀ m ∈ l, m.key.length ≤ 1024 ∧ m.val.length ≤ 1024
def mtStr (m : Mt) : Value := .string ⟨(mtText m).toArray⟩
def MTRel (w : World) (l : List Mt) (iv pv : Value) (wr : World) : Prop :=
  ∃ k, iv = .int .i64 ((k : Nat) : Int) ∧ k ≤ l.length ∧ wr.ownsRow w.heap.size 9 1 pv k ((l.take k).map mtStr) ∧ Fr [] w wr
theorem bs_size (l : Bs) : (ByteArray.mk l.toArray).size = l.length := by simp [ByteArray.size]
theorem signP_len (n : Int) : (signP n).length ≤ 2 := by
  unfold signP
  repeat' split
  all_goals simp
theorem quoteP_len (v : Bs) : (quoteP v).length ≤ 2 + 2 * v.length := by
  unfold quoteP
  have h1 := flat_len v
  have h2 : v.countP isQ ≤ v.length := List.countP_le_length
  simp only [List.length_cons, List.length_append, List.length_nil]
  omega

theorem newsOne (w : World) (y : Value) : ∀ j u, [y][j]? = some u → (w.alloc (.cells #[y] 9)).cell? ((⟨w.heap.size, 0, none⟩ : Addr).add j) = some u := by
  intro j u hj
  rw [add_at', cell_of (heap_alloc w _)]
  simpa using hj
set_option maxRecDepth 100000 in
set_option maxHeartbeats 800000 in
theorem matchText_any (l : List Mt) (hS : Short l) (v : Value) (w : World) (hM : Mts w v l) :
    Calls Tryz.prog 46 #[v] w fun e w' => e = .returned (.string ⟨(matchText l).toArray⟩) ∧ Fr [] w w' := by
  obtain ⟨A, cp, rfl, hl, hx⟩ := hM
  obtain ⟨i0, hi0, hz0, hz1, hz2⟩ := info_parts infoStr
  have hlen := hS.1
  have HX := Lib.hid hx
  clear hx
  go_enter Tryz.func46, Tryz.ntmps46
  go_wp2_with fail
  go_loopw [3, 8] (fun pv iv wr => MTRel w l iv pv wr) (fun _ iv _ => l.length - (intOf iv).toNat)
  case atStart => exact ⟨0, rfl, by omega, World.ownsRow_nil _ _ _ _, Fr.refl _ _⟩
  case round =>
    obtain ⟨k, rfl, hk, hrow, hF⟩ := hrel
    by_cases hk2 : k < l.length
    · obtain ⟨ad, rfl, m0, m1, m2⟩ := HX.out k hk2
      have c0 := cell_frS hF m0 (by simp)
      have c1 := cell_frS hF m1 (by simp)
      have c2 := cell_frS hF m2 (by simp)
      have hsp := World.cell?_spot c0
      clear m0 m1 m2
      obtain ⟨m, hm⟩ : ∃ m, l[k] = m := ⟨_, rfl⟩
      rw [hm] at c0 c1 c2
      have hsh := hS.2 m (by rw [← hm]; exact List.getElem_mem _)
      obtain ⟨K, hK⟩ : ∃ K : ByteArray, ⟨m.key.toArray⟩ = K := ⟨_, rfl⟩
      obtain ⟨V, hV⟩ : ∃ V : ByteArray, ⟨m.val.toArray⟩ = V := ⟨_, rfl⟩
      obtain ⟨G, hG⟩ : ∃ G : ByteArray, ⟨(signP m.op).toArray⟩ = G := ⟨_, rfl⟩
      obtain ⟨Z, hZ⟩ : ∃ Z : ByteArray, ⟨(quoteP m.val).toArray⟩ = Z := ⟨_, rfl⟩
      have sK : K.size ≤ 1024 := by rw [← hK, bs_size]; exact hsh.1
      have sV : V.size ≤ 1024 := by rw [← hV, bs_size]; exact hsh.2
      have sG : G.size ≤ 2 := by rw [← hG, bs_size]; exact signP_len _
      have sZ : Z.size ≤ 3000 := by rw [← hZ, bs_size]; have := quoteP_len m.val; omega
      have g1 : ¬ 9223372036854775807 < K.size + G.size := by omega
      have g2 : ¬ 9223372036854775807 < K.size + G.size + Z.size := by omega
      have hsg := sign_any m.op
      rw [hG] at hsg
      have hqt := quote_any V sV
      rw [show V.data.toList = m.val by rw [← hV], hZ] at hqt
      rw [hK] at c1
      rw [hV] at c2
      have hk1 : k + 1 ≤ 100000 := by omega
      have hkl : (k : Int) < (l.length : Int) := by omega
      have hBw := hF.size
      have hcat : mtStr m = .string (K ++ G ++ Z) := by
        unfold mtStr mtText
        rw [← hK, ← hG, ← hZ]
        congr 1
        apply bs_ext
        simp
      have htk : (l.take (k + 1)).map mtStr = (l.take k).map mtStr ++ [.string (K ++ G ++ Z)] := by
        rw [List.take_add_one, List.getElem?_eq_getElem hk2, hm, ← hcat]
        simp
      have HH := Lib.hid (And.intro htk (And.intro hF hrow))
      clear htk hcat hF hrow hK hV hG hZ hsh
      go_wp2_with fail
      go_region_law (first | (refine step_append_lies _ rfl (.tmp 12) (.tmp 23) 69 rfl w.heap.size 9 i0 (.string ⟨#[]⟩) 1 16 Tryz.underlying69 hi0 hz0 hz1 hz2 rfl (by omega) u3 k ((l.take k).map mtStr) (by simp [Act.eval]) (HO.out.alloc _) ⟨w1.heap.size, 0, none⟩ 1 1 [.string (K ++ G ++ Z)] (by simp [Act.eval]) rfl (newsOne w1 _) (by simp [Value.oneCell']) (by omega) (by unfold maxLen; omega) (by omega) (by simp; omega) (w1.heap.size + 1) (by simp) ?_; intro gg cap' w2 hown2 hgrow hat hlt) | (go_simp; go_at_call 66; refine (hsg _).mono ?_; rintro e w' ⟨rfl, rfl⟩) | (go_simp; go_at_call 67; refine (hqt _).mono ?_; rintro e w1 ⟨rfl, hF1⟩; have hEB := hF1.obj (heap_alloc wr (.cells #[.int .i64 m.op, .string K, .string V] 56)) (by simp); have j0 := cell_of hEB 0; have j1 := cell_of hEB 1; have j2 := cell_of hEB 2; simp only [List.getElem?_toArray, List.getElem?_cons_zero, List.getElem?_cons_succ] at j0 j1 j2; have hFF := ((Fr.refl [] wr).alloc (.cells #[.int .i64 m.op, .string K, .string V] 56)).trans hF1.of_drew; have HO := Lib.hid (row_fr HH.out.2.2 hFF (by simp)); have HFF := Lib.hid hFF; have hs1 := hFF.size; clear hEB hFF))
      all_goals
        go_wp2_with fail
        have hr2 : w2.ownsRow w.heap.size 9 1 (.slice (some ⟨gg, 0, none⟩) (k + 1) cap') (k + 1) ((l.take (k + 1)).map mtStr) := by
          rw [HH.out.1]
          exact hown2
        have hf2 : Fr [] w w2 := (HH.out.2.1.trans (HFF.out.alloc _)).new (fr_grown hgrow) (fun i hi => (row_old HH.out.2.2 (Option.mem_toList.1 hi)).1)
        exact ⟨⟨k + 1, rfl, hk2, hr2, hf2⟩, by simp [intOf]; omega⟩
    · obtain rfl : k = l.length := by omega
      have g1 : ¬ (l.length : Int) < (l.length : Int) := by omega
      rw [List.take_of_length_le (Nat.le_refl _)] at hrow
      obtain ⟨J, hJ⟩ : ∃ J : ByteArray, ⟨(joinP [44, 32] (l.map mtText)).toArray⟩ = J := ⟨_, rfl⟩
      have hjl : (joinP [44, 32] (l.map mtText)).length ≤ 8000000 := by
        refine Nat.le_trans (joinP_len [44, 32] 4000 (l.map mtText) (fun x hx => ?_)) (by rw [List.length_map]; simp only [List.length_cons, List.length_nil]; omega)
        obtain ⟨m, hm, rfl⟩ := List.mem_map.1 hx
        have h1 := hS.2 m hm
        have h2 := signP_len m.op
        have h3 := quoteP_len m.val
        unfold mtText
        rw [List.length_append, List.length_append]
        omega
      have sJ : J.size ≤ 8000000 := by rw [← hJ, bs_size]; exact hjl
      have g2 : ¬ 9223372036854775807 < 1 + J.size := by omega
      have g3 : ¬ 9223372036854775807 < 1 + J.size + 1 := by omega
      have hjoin : Calls Tryz.prog 49 #[u3, .string ⟨#[44, 32]⟩] wr fun e w' => e = .returned (.string J) ∧ Below wr.heap.size wr w' := by
        rcases Nat.eq_zero_or_pos l.length with h0 | h0
        · have hl0 : l = [] := List.eq_nil_of_length_eq_zero h0
          subst hl0
          have hu : ∃ A c, u3 = .slice A 0 c := by
            rcases hrow.2 with ⟨rfl, _⟩ | ⟨g, cap, cur, rfl, _⟩
            · exact ⟨_, _, rfl⟩
            · exact ⟨_, _, rfl⟩
          obtain ⟨A0, c0, rfl⟩ := hu
          refine (Tryz.strings_Join_none A0 c0 ⟨#[44, 32]⟩ wr).mono ?_
          rintro e w' ⟨rfl, rfl⟩
          exact ⟨by rw [← hJ]; rfl, Below.refl _ _⟩
        · obtain ⟨g, cap, rfl, hg1, hg2⟩ := hrow.form h0
          have hcap : l.length ≤ cap := by
            rcases hrow.2 with ⟨h, _⟩ | ⟨g', cap', cur, h, _, _, h5, _⟩
            · cases h
            · cases h; exact h5
          have hJn := Tryz.strings_Join g 0 cap (l.map fun m => ⟨(mtText m).toArray⟩) ⟨#[44, 32]⟩ wr (fun j x hx => by
            rw [List.getElem?_map] at hx
            obtain ⟨m, hm, rfl⟩ := Option.map_eq_some_iff.1 hx
            have := hrow.cells (g := g) rfl j (mtStr m) (by rw [List.getElem?_map, hm]; rfl)
            rw [add_at'] at this
            rw [Nat.zero_add]
            exact this) hg2 (by rw [List.length_map]; omega) (by rw [List.length_map]; exact hcap) (by
            rw [joinP_inter, List.map_map]
            exact Nat.le_trans hjl (by omega))
          rw [List.length_map, joinP_inter, List.map_map] at hJn
          refine hJn.mono ?_
          rintro e w' ⟨rfl, hb⟩
          refine ⟨?_, hb⟩
          rw [← hJ]
          rfl
      have hmt : (ByteArray.mk #[123] ++ J ++ ByteArray.mk #[125]) = ⟨(matchText l).toArray⟩ := by
        apply bs_ext
        rw [← hJ]
        simp [matchText]
      have HH := Lib.hid (And.intro hmt hF)
      clear hmt hF hrow hJ hjl
      go_wp2_with fail
      refine hjoin.mono ?_
      rintro e w1 ⟨rfl, hb⟩
      go_wp2_with fail
      go_ret
      refine ⟨?_, HH.out.2.trans (fr_newR hb [])⟩
      rw [← HH.out.1]
      rfl
end Go.Proofs.YtaniaknphjnlkaaGreatDoor
