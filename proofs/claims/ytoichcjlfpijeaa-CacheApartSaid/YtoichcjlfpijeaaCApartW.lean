/- CacheApart: the walk. -/
import Derived.Test.YtoichcjlfpijeaaCAb
import Derived.Deep.DeepCutAuto
import Derived.Deep.RegionHeld3
import Derived.Outline
namespace Go.Proofs.Ytoichcjlfpijeaa
open Go.RowKit Go.Bl

def nmObj : Obj := .cells #[.string ⟨#[97]⟩, .string ⟨#[98]⟩, .string ⟨#[99]⟩] 9 (0, 0)
def CRel (w : World) (c d nb : Nat) (most : Int) (own : ByteArray) (iv : Value) (wr : World) : Prop :=
  ∃ (k : Nat) (o : Option (List Ent1)) (v : Int × Int), iv = .int .i64 k ∧ k ≤ 200 ∧ AB w wr c d most own [(nb, nmObj)] o v o v

theorem nm_of (n : Nat) : ∃ nm, nm ∈ [sa, sb, sc] ∧ ∀ {W : World} {nb : Nat}, W.heap[nb]? = some nmObj → W.cell? ⟨nb, n % 3, none⟩ = some (.string nm) := by
  have h : n % 3 = 0 ∨ n % 3 = 1 ∨ n % 3 = 2 := by omega
  rcases h with h | h | h <;> rw [h]
  · exact ⟨sa, by simp, fun hw => cell_of hw 0⟩
  · exact ⟨sb, by simp, fun hw => cell_of hw 1⟩
  · exact ⟨sc, by simp, fun hw => cell_of hw 2⟩

set_option maxRecDepth 100000 in
set_option maxHeartbeats 8000000 in
theorem capart_any (most : Int) (own : ByteArray) (A : Option Addr) (len cap : Nat) (l : Nat → COp) (B : Option Addr) (olen ocap : Nat) (m : Nat → COp) (w : World) (hl : COpsAt w A len l) (hm : COpsAt w B olen m) :
    Calls Try.prog 5 #[.int .i64 most, .string own, .slice A len cap, .slice B olen ocap] w fun e w' => e = .returned (.bool true) ∧ Fr [] w w' := by
  have HL := Lib.hid hl
  have HM := Lib.hid hm
  have hmax := hl.max
  have omax := hm.max
  clear hl hm
  by_cases hbad : most < 1 ∨ 64 < most
  · have HB := Lib.hid hbad
    clear hbad
    go_enter Try.func5, Try.ntmps5
    go_wp2_with (first
      | (go_at_call 18; refine (cnew_bad _ HB.out _).mono ?_; rintro e w1 ⟨rfl, rfl⟩)
      | (go_at_call 19; refine (known_c _).mono ?_; rintro e w1 ⟨rfl, hF1⟩))
    go_ret
    exact ⟨rfl, hF1⟩
  · have hg : 1 ≤ most ∧ most ≤ 64 := by omega
    have HG := Lib.hid hg
    clear hbad hg
    go_enter Try.func5, Try.ntmps5
    go_wp2_with fail
    refine (cnew_ok most HG.out.1 HG.out.2 w).mono ?_
    rintro e w1 ⟨c, F1, rfl, h1, hF1, hB1⟩
    have H1 := Lib.hid h1
    clear h1
    go_wp2_with fail
    refine (cnew_ok most HG.out.1 HG.out.2 w1).mono ?_
    rintro e w2 ⟨d, F2, rfl, h2, hF2, hB2⟩
    have hz1 := hF1.size
    have hz2 := hF2.size
    have HAB : Hid (AB w w2 c d most own [] none (0, 0) none (0, 0)) :=
      ⟨_, _, F1, _, _, F2, ⟨_, H1.out.fr hF2 (by simp)⟩, ⟨_, h2⟩, ⟨rfl, rfl⟩, ⟨rfl, rfl⟩, fun u hu => absurd rfl hu, fun u hu => absurd rfl hu, fun i hi hd => by have := H1.out.lt i hi; have := hB2 i hd; omega, hF1.trans hF2, hB1, fun i hi => by have := hB2 i hi; omega, fun p hp => by simp at hp⟩
    have HN : Hid (AB w (w2.alloc (.cells #[.string ⟨#[97]⟩, .string ⟨#[98]⟩, .string ⟨#[99]⟩] 9)) c d most own [(w2.heap.size, nmObj)] none (0, 0) none (0, 0)) := HAB.out.new ((Fr.refl _ _).alloc _) (heap_alloc w2 _) (Nat.le_refl _)
    clear h2 hF1 hF2 hB1 hB2
    go_wp2_with fail
    go_loopw [12] (fun iv wr => CRel w c d w2.heap.size most own iv wr) (fun i _ => 200 - (intOf i).toNat)
    case atStart => exact ⟨0, none, (0, 0), rfl, Nat.zero_le _, HN.out⟩
    case round =>
      obtain ⟨k, o, v, rfl, hk, hAB⟩ := hrel
      have HA := Lib.hid hAB
      clear hAB HN HAB
      by_cases hgo : k < len ∧ (k : Int) < 200
      · obtain ⟨hlt, h200⟩ := hgo
        obtain ⟨ad, rfl, c0, c1, c2, c3, c4⟩ := (HL.out.fr HA.out.old).op k hlt
        have hsp := World.cell?_spot c0
        have HA1 : Hid (AB w (wr.alloc (.cells #[.int .i64 (l k).kind, .string own, .string (l k).k, .string (l k).s, .string (l k).x] 52)) c d most own [(wr.heap.size, .cells #[.int .i64 (l k).kind, .string own, .string (l k).k, .string (l k).s, .string (l k).x] 52 (0, 0)), (w2.heap.size, nmObj)] o v o v) :=
          HA.out.new ((Fr.refl _ _).alloc _) (heap_alloc wr _) (Nat.le_refl _)
        go_upto_region 11 with fail
        go_cut [58] (fun s58 wx => ∃ b : Bool, s58 = .bool b ∧ (b = true → k < olen ∧ (m k).kind ≠ 5) ∧ wx = wr.alloc (.cells #[.int .i64 (l k).kind, .string own, .string (l k).k, .string (l k).s, .string (l k).x] 52))
        case first =>
          by_cases ho : k < olen
          · obtain ⟨bd, rfl, b0, _⟩ := (HM.out.fr HA1.out.old).op k ho
            have bsp := World.cell?_spot b0
            by_cases h5 : (m k).kind = 5
            · go_wp2_with fail
              go_meet
              exact ⟨false, by simp [h5], (fun h => by cases h), rfl⟩
            · go_wp2_with fail
              go_meet
              exact ⟨true, by simp [h5], (fun _ => ⟨ho, h5⟩), rfl⟩
          · go_wp2_with fail
            go_meet
            exact ⟨false, rfl, (fun h => by cases h), rfl⟩
        case rest =>
          obtain ⟨b, rfl, hb, rfl⟩ := hcut
          have HBB := Lib.hid hb
          clear hb
          go_upto_if 58 with fail
          go_cut [] (fun wx => AB w wx c d most own [(wr.heap.size, .cells #[.int .i64 (l k).kind, .string own, .string (l k).k, .string (l k).s, .string (l k).x] 52 (0, 0)), (w2.heap.size, nmObj)] o v o v)
          case first =>
            cases b
            · go_wp2_with fail
              go_meet
              exact HA1.out
            · obtain ⟨ho, h5⟩ := HBB.out rfl
              obtain ⟨bd, rfl, b0, b1, b2, b3, b4⟩ := (HM.out.fr HA1.out.old).op k ho
              have bsp := World.cell?_spot b0
              have r0 : 0 ≤ ((m k).t.size : Int) % 3 := by omega
              have r1 : ((m k).t.size : Int) % 3 < 3 := by omega
              have nbk := HA1.out.block (p := (w2.heap.size, nmObj)) (by simp)
              obtain ⟨nm, hnm, hnc⟩ := nm_of (m k).t.size
              have nc := hnc ((((Fr.refl [] _).alloc (.cells #[.int .i64 (m k).kind, .string (m k).t, .string (m k).k, .string (m k).s, .string (m k).x] 52))).obj nbk (by simp))
              clear nbk hnc
              have hW2 := heap_alloc (wr.alloc (.cells #[.int .i64 (l k).kind, .string own, .string (l k).k, .string (l k).s, .string (l k).x] 52)) (.cells #[.int .i64 (m k).kind, .string nm, .string (m k).k, .string (m k).s, .string (m k).x] 52)
              rw [size_alloc'] at hW2
              have HA2 : Hid (AB w ((wr.alloc (.cells #[.int .i64 (l k).kind, .string own, .string (l k).k, .string (l k).s, .string (l k).x] 52)).alloc (.cells #[.int .i64 (m k).kind, .string nm, .string (m k).k, .string (m k).s, .string (m k).x] 52)) c d most own [(wr.heap.size, .cells #[.int .i64 (l k).kind, .string own, .string (l k).k, .string (l k).s, .string (l k).x] 52 (0, 0)), (w2.heap.size, nmObj)] o v o v) :=
                HA1.out.fr ((Fr.refl _ _).alloc _)
              have HN := Lib.hid hnm
              clear hnm
              by_cases hq : nm.toList = own.toList
              · go_wp2_with fail
                go_meet
                exact HA2.out
              · have hq2 : (nm.toList == own.toList) = false := by simpa using hq
                have HQ : Hid (nm ≠ own) := fun e => hq (by rw [e])
                obtain ⟨W2, hWW⟩ : ∃ W2, (wr.alloc (.cells #[.int .i64 (l k).kind, .string own, .string (l k).k, .string (l k).s, .string (l k).x] 52)).alloc (.cells #[.int .i64 (m k).kind, .string nm, .string (m k).k, .string (m k).s, .string (m k).x] 52) = W2 := ⟨_, rfl⟩
                rw [hWW] at hW2 HA2
                have x0 : W2.cell? ⟨wr.heap.size + 1, 0, none⟩ = some (.int .i64 (m k).kind) := cell_of hW2 0
                have x1 : W2.cell? ⟨wr.heap.size + 1, 1, none⟩ = some (.string nm) := cell_of hW2 1
                have hW3 : (W2.alloc (.cells #[.int .i64 1, .slice none 0 0, .slice none 0 0] 58)).heap[wr.heap.size + 1]? = _ := Go.Bl.heap_alloc_old hW2 _
                have y0 : (W2.alloc (.cells #[.int .i64 1, .slice none 0 0, .slice none 0 0] 58)).cell? ⟨wr.heap.size + 1, 0, none⟩ = some (.int .i64 (m k).kind) := cell_of hW3 0
                have y1 : (W2.alloc (.cells #[.int .i64 1, .slice none 0 0, .slice none 0 0] 58)).cell? ⟨wr.heap.size + 1, 1, none⟩ = some (.string nm) := cell_of hW3 1
                have y2 : (W2.alloc (.cells #[.int .i64 1, .slice none 0 0, .slice none 0 0] 58)).cell? ⟨wr.heap.size + 1, 2, none⟩ = some (.string (m k).k) := cell_of hW3 2
                have y3 : (W2.alloc (.cells #[.int .i64 1, .slice none 0 0, .slice none 0 0] 58)).cell? ⟨wr.heap.size + 1, 3, none⟩ = some (.string (m k).s) := cell_of hW3 3
                have y4 : (W2.alloc (.cells #[.int .i64 1, .slice none 0 0, .slice none 0 0] 58)).cell? ⟨wr.heap.size + 1, 4, none⟩ = some (.string (m k).x) := cell_of hW3 4
                have HA3 : Hid (AB w (W2.alloc (.cells #[.int .i64 1, .slice none 0 0, .slice none 0 0] 58)) c d most own [(W2.heap.size, .cells #[.int .i64 1, .slice none 0 0, .slice none 0 0] 58 (0, 0)), (wr.heap.size, .cells #[.int .i64 (l k).kind, .string own, .string (l k).k, .string (l k).s, .string (l k).x] 52 (0, 0)), (w2.heap.size, nmObj)] o v o v) :=
                  HA2.out.new ((Fr.refl _ _).alloc _) (heap_alloc W2 _) (Nat.le_refl _)
                have hst := ab_step HA3.out (HA2.out.old.size) (by
                  intro p hp e
                  have := lt_of_obj (HA2.out.block hp)
                  omega) ⟨(m k).kind, nm, (m k).k, (m k).s, (m k).x⟩ h5 HN.out HQ.out
                have HST : Hid (Calls Try.prog 20 #[pp d, pp W2.heap.size, .agg #[.int .i64 (m k).kind, .string nm, .string (m k).k, .string (m k).s, .string (m k).x]] (W2.alloc (.cells #[.int .i64 1, .slice none 0 0, .slice none 0 0] 58)) fun e w' => (∃ b, e = .returned (.bool b)) ∧ AB w w' c d most own [(wr.heap.size, .cells #[.int .i64 (l k).kind, .string own, .string (l k).k, .string (l k).s, .string (l k).x] 52 (0, 0)), (w2.heap.size, nmObj)] o v o v) := hst
                clear hst hW2 hW3
                go_wp2_with fail
                refine HST.out.mono ?_
                rintro e w3 ⟨⟨bb, rfl⟩, hab⟩
                have HAB3 := Lib.hid hab
                clear hab
                go_wp2_with fail
                go_meet
                exact HAB3.out
          case rest =>
            have HC := Lib.hid hcut
            clear hcut
            have x0 : wc.cell? ⟨wr.heap.size, 0, none⟩ = some (.int .i64 (l k).kind) := cell_of (HC.out.block (p := (wr.heap.size, .cells #[.int .i64 (l k).kind, .string own, .string (l k).k, .string (l k).s, .string (l k).x] 52 (0, 0))) (by simp)) 0
            have x2 : wc.cell? ⟨wr.heap.size, 2, none⟩ = some (.string (l k).k) := cell_of (HC.out.block (p := (wr.heap.size, .cells #[.int .i64 (l k).kind, .string own, .string (l k).k, .string (l k).s, .string (l k).x] 52 (0, 0))) (by simp)) 2
            have x3 : wc.cell? ⟨wr.heap.size, 3, none⟩ = some (.string (l k).s) := cell_of (HC.out.block (p := (wr.heap.size, .cells #[.int .i64 (l k).kind, .string own, .string (l k).k, .string (l k).s, .string (l k).x] 52 (0, 0))) (by simp)) 3
            have x4 : wc.cell? ⟨wr.heap.size, 4, none⟩ = some (.string (l k).x) := cell_of (HC.out.block (p := (wr.heap.size, .cells #[.int .i64 (l k).kind, .string own, .string (l k).k, .string (l k).s, .string (l k).x] 52 (0, 0))) (by simp)) 4
            by_cases kk : (l k).kind = 2
            · have k0b : ((l k).kind == 0) = false := by rw [kk]; rfl
              have k1b : ((l k).kind == 1) = false := by rw [kk]; rfl
              have k2b : ((l k).kind == 2) = true := by rw [kk]; rfl
              have k3b : ((l k).kind == 3) = false := by rw [kk]; rfl
              have k4b : ((l k).kind == 4) = false := by rw [kk]; rfl
              clear kk
              go_wp2_with fail
              refine (ab_get_c HC.out (l k).k (l k).s).mono ?_
              rintro e w4 ⟨rfl, h4⟩
              have H4 := Lib.hid h4
              clear h4
              have y0 : w4.cell? ⟨wr.heap.size, 0, none⟩ = some (.int .i64 (l k).kind) := cell_of (H4.out.block (p := (wr.heap.size, .cells #[.int .i64 (l k).kind, .string own, .string (l k).k, .string (l k).s, .string (l k).x] 52 (0, 0))) (by simp)) 0
              have y2 : w4.cell? ⟨wr.heap.size, 2, none⟩ = some (.string (l k).k) := cell_of (H4.out.block (p := (wr.heap.size, .cells #[.int .i64 (l k).kind, .string own, .string (l k).k, .string (l k).s, .string (l k).x] 52 (0, 0))) (by simp)) 2
              have y3 : w4.cell? ⟨wr.heap.size, 3, none⟩ = some (.string (l k).s) := cell_of (H4.out.block (p := (wr.heap.size, .cells #[.int .i64 (l k).kind, .string own, .string (l k).k, .string (l k).s, .string (l k).x] 52 (0, 0))) (by simp)) 3
              have y4 : w4.cell? ⟨wr.heap.size, 4, none⟩ = some (.string (l k).x) := cell_of (H4.out.block (p := (wr.heap.size, .cells #[.int .i64 (l k).kind, .string own, .string (l k).k, .string (l k).s, .string (l k).x] 52 (0, 0))) (by simp)) 4
              go_wp2_with fail
              refine (ab_get_d H4.out (l k).k (l k).s).mono ?_
              rintro e w5 ⟨rfl, h5⟩
              have H5 := Lib.hid h5
              clear h5
              have z0 : w5.cell? ⟨wr.heap.size, 0, none⟩ = some (.int .i64 (l k).kind) := cell_of (H5.out.block (p := (wr.heap.size, .cells #[.int .i64 (l k).kind, .string own, .string (l k).k, .string (l k).s, .string (l k).x] 52 (0, 0))) (by simp)) 0
              have z2 : w5.cell? ⟨wr.heap.size, 2, none⟩ = some (.string (l k).k) := cell_of (H5.out.block (p := (wr.heap.size, .cells #[.int .i64 (l k).kind, .string own, .string (l k).k, .string (l k).s, .string (l k).x] 52 (0, 0))) (by simp)) 2
              have z3 : w5.cell? ⟨wr.heap.size, 3, none⟩ = some (.string (l k).s) := cell_of (H5.out.block (p := (wr.heap.size, .cells #[.int .i64 (l k).kind, .string own, .string (l k).k, .string (l k).s, .string (l k).x] 52 (0, 0))) (by simp)) 3
              have z4 : w5.cell? ⟨wr.heap.size, 4, none⟩ = some (.string (l k).x) := cell_of (H5.out.block (p := (wr.heap.size, .cells #[.int .i64 (l k).kind, .string own, .string (l k).k, .string (l k).s, .string (l k).x] 52 (0, 0))) (by simp)) 4
              go_wp2_with fail
              refine (ab_len_c H5.out).mono ?_
              rintro e wl ⟨rfl, rfl⟩
              go_wp2_with fail
              refine (ab_len_d H5.out).mono ?_
              rintro e wl ⟨rfl, rfl⟩
              go_wp2_with fail
              refine (ab_counts_c H5.out).mono ?_
              rintro e wm ⟨rfl, hFm⟩
              have HFm := Lib.hid (H5.out.fr hFm)
              clear hFm
              go_wp2_with fail
              refine (ab_counts_d HFm.out).mono ?_
              rintro e wn ⟨rfl, hFn⟩
              have HFn := Lib.hid (HFm.out.fr hFn)
              clear hFn
              go_wp2_with fail
              exact ⟨⟨k + 1, _, _, by go_num, by omega, HFn.out.sub (by simp)⟩, by simp [intOf]; omega⟩
            by_cases kk : (l k).kind = 3
            · have k0b : ((l k).kind == 0) = false := by rw [kk]; rfl
              have k1b : ((l k).kind == 1) = false := by rw [kk]; rfl
              have k2b : ((l k).kind == 2) = false := by rw [kk]; rfl
              have k3b : ((l k).kind == 3) = true := by rw [kk]; rfl
              have k4b : ((l k).kind == 4) = false := by rw [kk]; rfl
              clear kk
              go_wp2_with fail
              refine (ab_get_c HC.out (l k).k (l k).s).mono ?_
              rintro e w4 ⟨rfl, h4⟩
              have H4 := Lib.hid h4
              clear h4
              have y0 : w4.cell? ⟨wr.heap.size, 0, none⟩ = some (.int .i64 (l k).kind) := cell_of (H4.out.block (p := (wr.heap.size, .cells #[.int .i64 (l k).kind, .string own, .string (l k).k, .string (l k).s, .string (l k).x] 52 (0, 0))) (by simp)) 0
              have y2 : w4.cell? ⟨wr.heap.size, 2, none⟩ = some (.string (l k).k) := cell_of (H4.out.block (p := (wr.heap.size, .cells #[.int .i64 (l k).kind, .string own, .string (l k).k, .string (l k).s, .string (l k).x] 52 (0, 0))) (by simp)) 2
              have y3 : w4.cell? ⟨wr.heap.size, 3, none⟩ = some (.string (l k).s) := cell_of (H4.out.block (p := (wr.heap.size, .cells #[.int .i64 (l k).kind, .string own, .string (l k).k, .string (l k).s, .string (l k).x] 52 (0, 0))) (by simp)) 3
              have y4 : w4.cell? ⟨wr.heap.size, 4, none⟩ = some (.string (l k).x) := cell_of (H4.out.block (p := (wr.heap.size, .cells #[.int .i64 (l k).kind, .string own, .string (l k).k, .string (l k).s, .string (l k).x] 52 (0, 0))) (by simp)) 4
              go_wp2_with fail
              refine (ab_get_d H4.out (l k).k (l k).s).mono ?_
              rintro e w5 ⟨rfl, h5⟩
              have H5 := Lib.hid h5
              clear h5
              have z0 : w5.cell? ⟨wr.heap.size, 0, none⟩ = some (.int .i64 (l k).kind) := cell_of (H5.out.block (p := (wr.heap.size, .cells #[.int .i64 (l k).kind, .string own, .string (l k).k, .string (l k).s, .string (l k).x] 52 (0, 0))) (by simp)) 0
              have z2 : w5.cell? ⟨wr.heap.size, 2, none⟩ = some (.string (l k).k) := cell_of (H5.out.block (p := (wr.heap.size, .cells #[.int .i64 (l k).kind, .string own, .string (l k).k, .string (l k).s, .string (l k).x] 52 (0, 0))) (by simp)) 2
              have z3 : w5.cell? ⟨wr.heap.size, 3, none⟩ = some (.string (l k).s) := cell_of (H5.out.block (p := (wr.heap.size, .cells #[.int .i64 (l k).kind, .string own, .string (l k).k, .string (l k).s, .string (l k).x] 52 (0, 0))) (by simp)) 3
              have z4 : w5.cell? ⟨wr.heap.size, 4, none⟩ = some (.string (l k).x) := cell_of (H5.out.block (p := (wr.heap.size, .cells #[.int .i64 (l k).kind, .string own, .string (l k).k, .string (l k).s, .string (l k).x] 52 (0, 0))) (by simp)) 4
              go_wp2_with fail
              refine (ab_len_c H5.out).mono ?_
              rintro e wl ⟨rfl, rfl⟩
              go_wp2_with fail
              refine (ab_len_d H5.out).mono ?_
              rintro e wl ⟨rfl, rfl⟩
              go_wp2_with fail
              refine (ab_counts_c H5.out).mono ?_
              rintro e wm ⟨rfl, hFm⟩
              have HFm := Lib.hid (H5.out.fr hFm)
              clear hFm
              go_wp2_with fail
              refine (ab_counts_d HFm.out).mono ?_
              rintro e wn ⟨rfl, hFn⟩
              have HFn := Lib.hid (HFm.out.fr hFn)
              clear hFn
              go_wp2_with fail
              exact ⟨⟨k + 1, _, _, by go_num, by omega, HFn.out.sub (by simp)⟩, by simp [intOf]; omega⟩
            by_cases kk : (l k).kind = 0
            · have k0b : ((l k).kind == 0) = true := by rw [kk]; rfl
              have k1b : ((l k).kind == 1) = false := by rw [kk]; rfl
              have k2b : ((l k).kind == 2) = false := by rw [kk]; rfl
              have k3b : ((l k).kind == 3) = false := by rw [kk]; rfl
              have k4b : ((l k).kind == 4) = false := by rw [kk]; rfl
              clear kk
              go_wp2_with fail
              go_region_held3 (fun w' => w'.cell? ⟨wr.heap.size, 2, none⟩ = some (.string (l k).k) ∧ w'.cell? ⟨wr.heap.size, 3, none⟩ = some (.string (l k).s) ∧ w'.cell? ⟨wr.heap.size, 4, none⟩ = some (.string (l k).x)) (first | exact ⟨x2, x3, x4⟩ | exact ⟨y2, y3, y4⟩ | exact ⟨z2, z3, z4⟩) (first
                | (go_at_call_of 22 (pp c); refine (ab_put_c (HC.out.fr (by (repeat (first | with_reducible exact Fr.refl _ _ | assumption | with_reducible refine Fr.drew ?_ | with_reducible refine Fr.drewN ?_ _)))) (l k).k (l k).s (l k).x).mono ?_; rintro e w4 ⟨rfl, h4⟩; have H4 := Lib.hid h4; clear h4; have y0 : w4.cell? ⟨wr.heap.size, 0, none⟩ = some (.int .i64 (l k).kind) := cell_of (H4.out.block (p := (wr.heap.size, .cells #[.int .i64 (l k).kind, .string own, .string (l k).k, .string (l k).s, .string (l k).x] 52 (0, 0))) (by simp)) 0; have y2 : w4.cell? ⟨wr.heap.size, 2, none⟩ = some (.string (l k).k) := cell_of (H4.out.block (p := (wr.heap.size, .cells #[.int .i64 (l k).kind, .string own, .string (l k).k, .string (l k).s, .string (l k).x] 52 (0, 0))) (by simp)) 2; have y3 : w4.cell? ⟨wr.heap.size, 3, none⟩ = some (.string (l k).s) := cell_of (H4.out.block (p := (wr.heap.size, .cells #[.int .i64 (l k).kind, .string own, .string (l k).k, .string (l k).s, .string (l k).x] 52 (0, 0))) (by simp)) 3; have y4 : w4.cell? ⟨wr.heap.size, 4, none⟩ = some (.string (l k).x) := cell_of (H4.out.block (p := (wr.heap.size, .cells #[.int .i64 (l k).kind, .string own, .string (l k).k, .string (l k).s, .string (l k).x] 52 (0, 0))) (by simp)) 4)
                | (go_at_call_of 22 (pp d); refine (ab_put_d (H4.out.fr (by (repeat (first | with_reducible exact Fr.refl _ _ | assumption | with_reducible refine Fr.drew ?_ | with_reducible refine Fr.drewN ?_ _)))) (l k).k (l k).s (l k).x).mono ?_; rintro e w5 ⟨rfl, h5⟩; have H5 := Lib.hid h5; clear h5; have z0 : w5.cell? ⟨wr.heap.size, 0, none⟩ = some (.int .i64 (l k).kind) := cell_of (H5.out.block (p := (wr.heap.size, .cells #[.int .i64 (l k).kind, .string own, .string (l k).k, .string (l k).s, .string (l k).x] 52 (0, 0))) (by simp)) 0; have z2 : w5.cell? ⟨wr.heap.size, 2, none⟩ = some (.string (l k).k) := cell_of (H5.out.block (p := (wr.heap.size, .cells #[.int .i64 (l k).kind, .string own, .string (l k).k, .string (l k).s, .string (l k).x] 52 (0, 0))) (by simp)) 2; have z3 : w5.cell? ⟨wr.heap.size, 3, none⟩ = some (.string (l k).s) := cell_of (H5.out.block (p := (wr.heap.size, .cells #[.int .i64 (l k).kind, .string own, .string (l k).k, .string (l k).s, .string (l k).x] 52 (0, 0))) (by simp)) 3; have z4 : w5.cell? ⟨wr.heap.size, 4, none⟩ = some (.string (l k).x) := cell_of (H5.out.block (p := (wr.heap.size, .cells #[.int .i64 (l k).kind, .string own, .string (l k).k, .string (l k).s, .string (l k).x] 52 (0, 0))) (by simp)) 4))
              all_goals
                go_wp2_with fail
                refine (ab_len_c H5.out).mono ?_
                rintro e wl ⟨rfl, rfl⟩
                go_wp2_with fail
                refine (ab_len_d H5.out).mono ?_
                rintro e wl ⟨rfl, rfl⟩
                go_wp2_with fail
                refine (ab_counts_c H5.out).mono ?_
                rintro e wm ⟨rfl, hFm⟩
                have HFm := Lib.hid (H5.out.fr hFm)
                clear hFm
                go_wp2_with fail
                refine (ab_counts_d HFm.out).mono ?_
                rintro e wn ⟨rfl, hFn⟩
                have HFn := Lib.hid (HFm.out.fr hFn)
                clear hFn
                go_wp2_with fail
                exact ⟨⟨k + 1, _, _, by go_num, by omega, HFn.out.sub (by simp)⟩, by simp [intOf]; omega⟩
            by_cases kk : (l k).kind = 1
            · have k0b : ((l k).kind == 0) = false := by rw [kk]; rfl
              have k1b : ((l k).kind == 1) = true := by rw [kk]; rfl
              have k2b : ((l k).kind == 2) = false := by rw [kk]; rfl
              have k3b : ((l k).kind == 3) = false := by rw [kk]; rfl
              have k4b : ((l k).kind == 4) = false := by rw [kk]; rfl
              clear kk
              go_wp2_with fail
              go_region_held3 (fun w' => w'.cell? ⟨wr.heap.size, 2, none⟩ = some (.string (l k).k) ∧ w'.cell? ⟨wr.heap.size, 3, none⟩ = some (.string (l k).s) ∧ w'.cell? ⟨wr.heap.size, 4, none⟩ = some (.string (l k).x)) (first | exact ⟨x2, x3, x4⟩ | exact ⟨y2, y3, y4⟩ | exact ⟨z2, z3, z4⟩) (first
                | (go_at_call_of 22 (pp c); refine (ab_put_c (HC.out.fr (by (repeat (first | with_reducible exact Fr.refl _ _ | assumption | with_reducible refine Fr.drew ?_ | with_reducible refine Fr.drewN ?_ _)))) (l k).k (l k).s (l k).x).mono ?_; rintro e w4 ⟨rfl, h4⟩; have H4 := Lib.hid h4; clear h4; have y0 : w4.cell? ⟨wr.heap.size, 0, none⟩ = some (.int .i64 (l k).kind) := cell_of (H4.out.block (p := (wr.heap.size, .cells #[.int .i64 (l k).kind, .string own, .string (l k).k, .string (l k).s, .string (l k).x] 52 (0, 0))) (by simp)) 0; have y2 : w4.cell? ⟨wr.heap.size, 2, none⟩ = some (.string (l k).k) := cell_of (H4.out.block (p := (wr.heap.size, .cells #[.int .i64 (l k).kind, .string own, .string (l k).k, .string (l k).s, .string (l k).x] 52 (0, 0))) (by simp)) 2; have y3 : w4.cell? ⟨wr.heap.size, 3, none⟩ = some (.string (l k).s) := cell_of (H4.out.block (p := (wr.heap.size, .cells #[.int .i64 (l k).kind, .string own, .string (l k).k, .string (l k).s, .string (l k).x] 52 (0, 0))) (by simp)) 3; have y4 : w4.cell? ⟨wr.heap.size, 4, none⟩ = some (.string (l k).x) := cell_of (H4.out.block (p := (wr.heap.size, .cells #[.int .i64 (l k).kind, .string own, .string (l k).k, .string (l k).s, .string (l k).x] 52 (0, 0))) (by simp)) 4)
                | (go_at_call_of 22 (pp d); refine (ab_put_d (H4.out.fr (by (repeat (first | with_reducible exact Fr.refl _ _ | assumption | with_reducible refine Fr.drew ?_ | with_reducible refine Fr.drewN ?_ _)))) (l k).k (l k).s (l k).x).mono ?_; rintro e w5 ⟨rfl, h5⟩; have H5 := Lib.hid h5; clear h5; have z0 : w5.cell? ⟨wr.heap.size, 0, none⟩ = some (.int .i64 (l k).kind) := cell_of (H5.out.block (p := (wr.heap.size, .cells #[.int .i64 (l k).kind, .string own, .string (l k).k, .string (l k).s, .string (l k).x] 52 (0, 0))) (by simp)) 0; have z2 : w5.cell? ⟨wr.heap.size, 2, none⟩ = some (.string (l k).k) := cell_of (H5.out.block (p := (wr.heap.size, .cells #[.int .i64 (l k).kind, .string own, .string (l k).k, .string (l k).s, .string (l k).x] 52 (0, 0))) (by simp)) 2; have z3 : w5.cell? ⟨wr.heap.size, 3, none⟩ = some (.string (l k).s) := cell_of (H5.out.block (p := (wr.heap.size, .cells #[.int .i64 (l k).kind, .string own, .string (l k).k, .string (l k).s, .string (l k).x] 52 (0, 0))) (by simp)) 3; have z4 : w5.cell? ⟨wr.heap.size, 4, none⟩ = some (.string (l k).x) := cell_of (H5.out.block (p := (wr.heap.size, .cells #[.int .i64 (l k).kind, .string own, .string (l k).k, .string (l k).s, .string (l k).x] 52 (0, 0))) (by simp)) 4))
              all_goals
                go_wp2_with fail
                refine (ab_len_c H5.out).mono ?_
                rintro e wl ⟨rfl, rfl⟩
                go_wp2_with fail
                refine (ab_len_d H5.out).mono ?_
                rintro e wl ⟨rfl, rfl⟩
                go_wp2_with fail
                refine (ab_counts_c H5.out).mono ?_
                rintro e wm ⟨rfl, hFm⟩
                have HFm := Lib.hid (H5.out.fr hFm)
                clear hFm
                go_wp2_with fail
                refine (ab_counts_d HFm.out).mono ?_
                rintro e wn ⟨rfl, hFn⟩
                have HFn := Lib.hid (HFm.out.fr hFn)
                clear hFn
                go_wp2_with fail
                exact ⟨⟨k + 1, _, _, by go_num, by omega, HFn.out.sub (by simp)⟩, by simp [intOf]; omega⟩
            by_cases kk : (l k).kind = 4
            · have k0b : ((l k).kind == 0) = false := by rw [kk]; rfl
              have k1b : ((l k).kind == 1) = false := by rw [kk]; rfl
              have k2b : ((l k).kind == 2) = false := by rw [kk]; rfl
              have k3b : ((l k).kind == 3) = false := by rw [kk]; rfl
              have k4b : ((l k).kind == 4) = true := by rw [kk]; rfl
              clear kk
              go_wp2_with fail
              refine (ab_forget_c HC.out).mono ?_
              rintro e w4 ⟨rfl, h4⟩
              have H4 := Lib.hid h4
              clear h4
              go_wp2_with fail
              refine (ab_forget_d H4.out).mono ?_
              rintro e w5 ⟨rfl, h5⟩
              have H5 := Lib.hid h5
              clear h5
              go_wp2_with fail
              refine (ab_len_c H5.out).mono ?_
              rintro e wl ⟨rfl, rfl⟩
              go_wp2_with fail
              refine (ab_len_d H5.out).mono ?_
              rintro e wl ⟨rfl, rfl⟩
              go_wp2_with fail
              refine (ab_counts_c H5.out).mono ?_
              rintro e wm ⟨rfl, hFm⟩
              have HFm := Lib.hid (H5.out.fr hFm)
              clear hFm
              go_wp2_with fail
              refine (ab_counts_d HFm.out).mono ?_
              rintro e wn ⟨rfl, hFn⟩
              have HFn := Lib.hid (HFm.out.fr hFn)
              clear hFn
              go_wp2_with fail
              exact ⟨⟨k + 1, _, _, by go_num, by omega, HFn.out.sub (by simp)⟩, by simp [intOf]; omega⟩
            rename_i kn2 kn3 kn0 kn1
            have kn4 := kk
            have k0b : ((l k).kind == 0) = false := by simpa using kn0
            have k1b : ((l k).kind == 1) = false := by simpa using kn1
            have k2b : ((l k).kind == 2) = false := by simpa using kn2
            have k3b : ((l k).kind == 3) = false := by simpa using kn3
            have k4b : ((l k).kind == 4) = false := by simpa using kn4
            clear kn0 kn1 kn2 kn3 kn4 kk
            go_wp2_with fail
            refine (ab_len_c HC.out).mono ?_
            rintro e wl ⟨rfl, rfl⟩
            go_wp2_with fail
            refine (ab_len_d HC.out).mono ?_
            rintro e wl ⟨rfl, rfl⟩
            go_wp2_with fail
            refine (ab_counts_c HC.out).mono ?_
            rintro e wm ⟨rfl, hFm⟩
            have HFm := Lib.hid (HC.out.fr hFm)
            clear hFm
            go_wp2_with fail
            refine (ab_counts_d HFm.out).mono ?_
            rintro e wn ⟨rfl, hFn⟩
            have HFn := Lib.hid (HFm.out.fr hFn)
            clear hFn
            go_wp2_with fail
            exact ⟨⟨k + 1, _, _, by go_num, by omega, HFn.out.sub (by simp)⟩, by simp [intOf]; omega⟩
      · have hx : len ≤ k ∨ (k < len ∧ 200 ≤ (k : Int)) := by omega
        clear hgo
        rcases hx with hx | ⟨hx, hy⟩
        all_goals
          go_wp2_with (go_at_call 19; refine (known_c _).mono ?_; rintro e w3 ⟨rfl, hF3⟩)
          go_ret
          exact ⟨rfl, HA.out.old.trans hF3⟩
end Go.Proofs.Ytoichcjlfpijeaa
