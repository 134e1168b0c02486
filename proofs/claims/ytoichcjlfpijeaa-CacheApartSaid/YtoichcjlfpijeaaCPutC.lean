/- The cache: New, Put. -/
import Derived.Test.YtoichcjlfpijeaaCCac
import Derived.Deep.RegionWith
namespace Go.Proofs.Ytoichcjlfpijeaa
open Go.RowKit Go.Bl

theorem cnew_bad (n : Int) (h : n < 1 ∨ 64 < n) (w : World) : Calls Try.prog 18 #[.int .i64 n] w fun e w' => e = .returned (.pointer none) ∧ w = w' := by
  by_cases h1 : n < 1
  · go_enter Try.func18, Try.ntmps18
    go_wp2
    go_ret
    exact ⟨rfl, rfl⟩
  · have h2 : 64 < n := by omega
    go_enter Try.func18, Try.ntmps18
    go_wp2
    go_ret
    exact ⟨rfl, rfl⟩
def CNewPost (n : Int) (w : World) (e : Ending) (w' : World) : Prop := ∃ c F, e = .returned (pp c) ∧ Cac w' c n (fun _ => none) (fun _ => (0, 0)) 0 F ∧ Fr [] w w' ∧ ∀ i ∈ F, w.heap.size ≤ i
theorem cnew_ok (n : Int) (h1 : 1 ≤ n) (h2 : n ≤ 64) (w : World) : Calls Try.prog 18 #[.int .i64 n] w (CNewPost n w) := by
  have hmm := @run_makeMap Try.prog
  have h1' : ¬ n < 1 := by omega
  have h2' : ¬ 64 < n := by omega
  have hP : Hid (CacheO (((w.alloc (.map #[] 0)).alloc (.map #[] 0)).alloc (.cells #[.int .i64 n, .map (some w.heap.size), .map (some (w.heap.size + 1))] 100)) (w.heap.size + 2) w.heap.size (w.heap.size + 1) n (fun _ => none) 0 (fun _ => none) 0 (fun _ => none) (fun _ => (0, 0)) (fun _ => []) [w.heap.size + 2, w.heap.size, w.heap.size + 1] ∧
      Fr [] w (((w.alloc (.map #[] 0)).alloc (.map #[] 0)).alloc (.cells #[.int .i64 n, .map (some w.heap.size), .map (some (w.heap.size + 1))] 100))) := by
    have hc := heap_alloc ((w.alloc (.map #[] 0)).alloc (.map #[] 0)) (.cells #[.int .i64 n, .map (some w.heap.size), .map (some (w.heap.size + 1))] 100)
    rw [size_alloc', size_alloc'] at hc
    have hm2 := MapAt.made (w.alloc (.map #[] 0))
    rw [size_alloc'] at hm2
    refine ⟨?_, (((Fr.refl _ _).alloc _).alloc _).alloc _⟩
    exact
    { cell := hc
      tm := ((MapAt.made w).fr ((Fr.refl [] _).alloc _) (by simp)).fr ((Fr.refl [] _).alloc _) (by simp)
      cm := hm2.fr ((Fr.refl [] _).alloc _) (by simp)
      m0 := h1
      m1 := h2
      ne := by omega
      no := fun _ _ => rfl
      yes := fun t v hv => by simp at hv
      cnt := fun _ => rfl
      dis := fun t u ht => by simp at ht
      own := fun t ht => by simp at ht
      cF := by simp
      mF := by simp
      nF := by simp
      gF := fun t ht => by simp at ht
      lt := by simp; omega }
  clear h1 h2
  go_enter Try.func18, Try.ntmps18
  go_wp2
  go_ret
  exact ⟨_, [w.heap.size + 2, w.heap.size, w.heap.size + 1], rfl, ⟨_, _, _, _, _, _, hP.out.1⟩, hP.out.2, by simp⟩

theorem cput_nil (t k s x : ByteArray) (w : World) : Calls Try.prog 22 #[.pointer none, .string t, .string k, .string s, .string x] w fun e w' => e = .returned (.int .i64 2) ∧ w = w' := by
  go_enter Try.func22, Try.ntmps22
  go_wp2
  go_ret
  exact ⟨rfl, rfl⟩

section
variable {w : World} {c mm mc : Nat} {most : Int} {f : ByteArray → Option Value} {n : Nat} {g : ByteArray → Option Value} {nc : Nat} {M : ByteArray → Option (List Ent1)} {C : ByteArray → Int × Int} {G : ByteArray → List Nat} {F : List Nat}

set_option maxRecDepth 100000 in
theorem cput_size (h : CacheO w c mm mc most f n g nc M C G F) (t k s x : ByteArray) (hn : n < 16) (hs : 65536 < x.size ∨ 524288 < k.size) :
    Calls Try.prog 22 #[pp c, .string t, .string k, .string s, .string x] w fun e w' => e = .returned (.int .i64 4) ∧ w = w' := by
  have hl := h.look t
  have c1 : w.cell? ⟨c, 1, none⟩ = some (.map (some mm)) := cell_of h.cell 1
  have hlen : ∀ t', (Builtin.len_ #[97] t' #[.map (some mm)]).run Try.prog w = .ok (.int .i64 n) w := fun t' => h.tm.len Try.underlying97
  have HN := Lib.hid hlen
  have hn' : ¬ (16 : Int) ≤ n := by omega
  have hns : ¬ ((n : Int) ≥ 16) := by omega
  rcases h.cases t with ⟨h1, h2⟩ | ⟨l, L, h1, h2, h3, _⟩
  all_goals
    rw [h1] at hl
    clear h h1 h2 hlen
    by_cases q : 65536 < x.size
    · have q1 : (65536 : Int) < x.size := by omega
      clear hs
      go_enter Try.func22, Try.ntmps22
      go_wp2_with (at_len; refine wpList_maplen rfl _ _ rfl _ _ rfl (HN.out _) ?_)
      go_ret
      exact ⟨rfl, rfl⟩
    · have q1 : ¬ (65536 : Int) < x.size := by omega
      have q2 : (524288 : Int) < k.size := by omega
      clear hs
      go_enter Try.func22, Try.ntmps22
      go_wp2_with (at_len; refine wpList_maplen rfl _ _ rfl _ _ rfl (HN.out _) ?_)
      go_ret
      exact ⟨rfl, rfl⟩

set_option maxRecDepth 100000 in
theorem cput_full (h : CacheO w c mm mc most f n g nc M C G F) (t k s x : ByteArray) (hn : 16 ≤ n) (ht : f t = none) :
    Calls Try.prog 22 #[pp c, .string t, .string k, .string s, .string x] w fun e w' => e = .returned (.int .i64 7) ∧ w = w' := by
  have hl := h.look t
  have c1 : w.cell? ⟨c, 1, none⟩ = some (.map (some mm)) := cell_of h.cell 1
  have hlen : ∀ t', (Builtin.len_ #[97] t' #[.map (some mm)]).run Try.prog w = .ok (.int .i64 n) w := fun t' => h.tm.len Try.underlying97
  have HN := Lib.hid hlen
  have hn' : (16 : Int) ≤ n := by omega
  rw [ht] at hl
  clear h hlen ht
  go_enter Try.func22, Try.ntmps22
  go_wp2_with (at_len; refine wpList_maplen rfl _ _ rfl _ _ rfl (HN.out _) ?_)
  go_ret
  exact ⟨rfl, rfl⟩

set_option maxRecDepth 100000 in
theorem cput_old (h : CacheO w c mm mc most f n g nc M C G F) (t k s x : ByteArray) (hs : ¬ (65536 < x.size ∨ 524288 < k.size)) (l : Nat) (L : List Ent1) (ht : f t = some (pp l)) (hM : LruA w l most L (G t)) (hL : (L.length : Int) ≤ most) :
    Calls Try.prog 22 #[pp c, .string t, .string k, .string s, .string x] w fun e w' => e = .returned (.int .i64 0) ∧ (∃ F', LruA w' l most (putE L ⟨k, s, x⟩ most) F' ∧ ∀ i ∈ F', i ∈ G t ∨ w.heap.size ≤ i) ∧ Fr (G t) w w' := by
  have hl := h.look t
  have c1 : w.cell? ⟨c, 1, none⟩ = some (.map (some mm)) := cell_of h.cell 1
  rw [ht] at hl
  have HP := Lib.hid (aput hM k s x h.m0 h.m1 hL)
  have q1 : ¬ (65536 : Int) < x.size := by omega
  have q2 : ¬ (524288 : Int) < k.size := by omega
  clear h ht hM hL hs
  go_enter Try.func22, Try.ntmps22
  go_wp2_with fail
  refine HP.out.mono ?_
  rintro e w' ⟨⟨gg, ok, rfl⟩, hh⟩
  have HH := Lib.hid hh
  clear hh
  go_wp2_with fail
  go_ret
  exact ⟨rfl, HH.out⟩

/-- The cache behind a store of a new list. -/
theorem CacheO.put {w2 : World} (h : CacheO w c mm mc most f n g nc M C G F) (t : ByteArray) (l : Nat) (L : List Ent1) (Fl : List Nat) {n' : Nat} (hM : MapAt w2 mm (fun x => if x = t then some (pp l) else f x) n') (hF : Fr [mm] w w2) (hL : LruA w2 l most L Fl) (hlen : (L.length : Int) ≤ most)
    (hn : ∀ i ∈ Fl, i ∉ F) : CacheO w2 c mm mc most (fun x => if x = t then some (pp l) else f x) n' g nc (fun x => if x = t then some L else M x) C (fun x => if x = t then Fl else G x) (Fl ++ F) := by
  have hk : ∀ u, u ≠ t → (if u = t then some (pp l) else f u) ≠ none → f u ≠ none := fun u hu h => by rwa [if_neg hu] at h
  exact
  { cell := hF.obj h.cell (by simpa using Ne.symm h.ncm.1)
    tm := hM
    cm := h.cm.fr hF (by simpa using Ne.symm h.ne)
    m0 := h.m0
    m1 := h.m1
    ne := h.ne
    no := fun u hu => by
      by_cases e : u = t
      · rw [if_pos e] at hu; cases hu
      · rw [if_neg e] at hu ⊢; exact h.no u hu
    yes := fun u v hv => by
      by_cases e : u = t
      · rw [if_pos e] at hv; cases hv
        rw [if_pos e, if_pos e]
        exact ⟨l, L, rfl, rfl, hL, hlen⟩
      · rw [if_neg e] at hv
        rw [if_neg e, if_neg e]
        obtain ⟨l1, L1, h1, h2, h3, h4⟩ := h.yes u v hv
        exact ⟨l1, L1, h1, h2, h3.fr hF (fun i hi => by simpa using (h.own u (by rw [hv]; simp) i hi).2.1), h4⟩
    cnt := h.cnt
    dis := fun u v hu hv huv i hi => by
      by_cases e : u = t
      · by_cases e' : v = t
        · exact absurd (e.trans e'.symm) huv
        · rw [if_pos e] at hi
          rw [if_neg e']
          intro hi2
          exact hn i hi (h.gF v (hk v e' hv) i hi2)
      · rw [if_neg e] at hi
        by_cases e' : v = t
        · rw [if_pos e']
          intro hi2
          exact hn i hi2 (h.gF u (hk u e hu) i hi)
        · rw [if_neg e']
          exact h.dis u v (hk u e hu) (hk v e' hv) huv i hi
    own := fun u hu i hi => by
      by_cases e : u = t
      · rw [if_pos e] at hi
        exact ⟨fun e1 => hn i hi (by rw [e1]; exact h.cF), fun e1 => hn i hi (by rw [e1]; exact h.mF), fun e1 => hn i hi (by rw [e1]; exact h.nF)⟩
      · rw [if_neg e] at hi
        exact h.own u (hk u e hu) i hi
    cF := List.mem_append_right _ h.cF
    mF := List.mem_append_right _ h.mF
    nF := List.mem_append_right _ h.nF
    gF := fun u hu i hi => by
      by_cases e : u = t
      · rw [if_pos e] at hi; exact List.mem_append_left _ hi
      · rw [if_neg e] at hi; exact List.mem_append_right _ (h.gF u (hk u e hu) i hi)
    lt := fun i hi => by
      rcases List.mem_append.1 hi with h1 | h1
      · exact hL.lt i h1
      · exact Nat.lt_of_lt_of_le (h.lt i h1) hF.size }

/-- The cache behind a change of one tenant's list. -/
theorem CacheO.touch {w2 : World} (h : CacheO w c mm mc most f n g nc M C G F) (t : ByteArray) (l : Nat) (L : List Ent1) (Fl : List Nat) (ht : f t = some (pp l)) (hF : Fr (G t) w w2) (hL : LruA w2 l most L Fl) (hlen : (L.length : Int) ≤ most)
    (hn : ∀ i ∈ Fl, i ∈ G t ∨ w.heap.size ≤ i) : CacheO w2 c mm mc most f n g nc (fun x => if x = t then some L else M x) C (fun x => if x = t then Fl else G x) (Fl ++ F) := by
  have hft : f t ≠ none := by rw [ht]; simp
  have hap : ∀ i ∈ Fl, (i ∉ F ∨ i ∈ G t) := fun i hi => (hn i hi).symm.imp (fun h1 h2 => by have := h.lt i h2; omega) id
  have hnG : ∀ i, i = c ∨ i = mm ∨ i = mc → i ∉ G t := fun i hi hm => by
    have := h.own t hft i hm
    rcases hi with rfl | rfl | rfl
    · exact this.1 rfl
    · exact this.2.1 rfl
    · exact this.2.2 rfl
  exact
  { cell := hF.obj h.cell (hnG _ (.inl rfl))
    tm := h.tm.fr hF (hnG _ (.inr (.inl rfl)))
    cm := h.cm.fr hF (hnG _ (.inr (.inr rfl)))
    m0 := h.m0
    m1 := h.m1
    ne := h.ne
    no := fun u hu => by
      by_cases e : u = t
      · rw [e, ht] at hu; cases hu
      · rw [if_neg e]; exact h.no u hu
    yes := fun u v hv => by
      by_cases e : u = t
      · rw [e, ht] at hv; cases hv
        rw [if_pos e, if_pos e]
        exact ⟨l, L, rfl, rfl, hL, hlen⟩
      · rw [if_neg e, if_neg e]
        obtain ⟨l1, L1, h1, h2, h3, h4⟩ := h.yes u v hv
        exact ⟨l1, L1, h1, h2, h3.fr hF (h.dis u t (by rw [hv]; simp) hft e), h4⟩
    cnt := h.cnt
    dis := fun u v hu hv huv i hi => by
      by_cases e : u = t
      · rw [if_pos e] at hi
        rw [if_neg (fun e' => huv (e.trans e'.symm))]
        intro hi2
        rcases hap i hi with h1 | h1
        · exact h1 (h.gF v hv i hi2)
        · exact h.dis t v hft hv (fun e' => huv (e.trans e')) i h1 hi2
      · rw [if_neg e] at hi
        by_cases e' : v = t
        · rw [if_pos e']
          intro hi2
          rcases hap i hi2 with h1 | h1
          · exact h1 (h.gF u hu i hi)
          · exact h.dis u t hu hft e i hi h1
        · rw [if_neg e']
          exact h.dis u v hu hv huv i hi
    own := fun u hu i hi => by
      by_cases e : u = t
      · rw [if_pos e] at hi
        rcases hap i hi with h1 | h1
        · exact ⟨fun e1 => h1 (by rw [e1]; exact h.cF), fun e1 => h1 (by rw [e1]; exact h.mF), fun e1 => h1 (by rw [e1]; exact h.nF)⟩
        · exact h.own t hft i h1
      · rw [if_neg e] at hi
        exact h.own u hu i hi
    cF := List.mem_append_right _ h.cF
    mF := List.mem_append_right _ h.mF
    nF := List.mem_append_right _ h.nF
    gF := fun u hu i hi => by
      by_cases e : u = t
      · rw [if_pos e] at hi; exact List.mem_append_left _ hi
      · rw [if_neg e] at hi; exact List.mem_append_right _ (h.gF u hu i hi)
    lt := fun i hi => by
      rcases List.mem_append.1 hi with h1 | h1
      · exact hL.lt i h1
      · exact Nat.lt_of_lt_of_le (h.lt i h1) hF.size }

def putM (M : ByteArray → Option (List Ent1)) (t k s x : ByteArray) (most : Int) : ByteArray → Option (List Ent1) := fun u => if u = t then some (putE ((M t).getD []) ⟨k, s, x⟩ most) else M u
def CPutPost (w : World) (c mm mc : Nat) (most : Int) (g : ByteArray → Option Value) (nc : Nat) (M : ByteArray → Option (List Ent1)) (C : ByteArray → Int × Int) (F : List Nat) (t k s x : ByteArray) (e : Ending) (w' : World) : Prop :=
  e = .returned (.int .i64 0) ∧ (∃ f' n' G' F', CacheO w' c mm mc most f' n' g nc (putM M t k s x most) C G' F' ∧ ∀ i ∈ F', i ∈ F ∨ w.heap.size ≤ i) ∧ Fr F w w'

theorem cput_old_any (h : CacheO w c mm mc most f n g nc M C G F) (t k s x : ByteArray) (hs : ¬ (65536 < x.size ∨ 524288 < k.size)) (ht : f t ≠ none) :
    Calls Try.prog 22 #[pp c, .string t, .string k, .string s, .string x] w (CPutPost w c mm mc most g nc M C F t k s x) := by
  rcases h.cases t with ⟨h1, h2⟩ | ⟨l, L, h1, h2, h3, h4⟩
  · exact absurd h1 ht
  · refine (cput_old h t k s x hs l L h1 h3 h4).mono ?_
    rintro e w' ⟨rfl, ⟨F', hL, hsub⟩, hF⟩
    have h5 := h.touch t l _ F' h1 hF hL (putE_len _ _ _ h.m0 h4) hsub
    have e : putM M t k s x most = fun u => if u = t then some (putE L ⟨k, s, x⟩ most) else M u := by unfold putM; rw [h2]; rfl
    rw [← e] at h5
    refine ⟨rfl, ⟨_, _, _, _, h5, fun i hi => ?_⟩, hF.mono (fun i hi => .inl (h.gF t ht i hi))⟩
    rcases List.mem_append.1 hi with h5 | h5
    · exact (hsub i h5).imp (h.gF t ht i) id
    · exact .inl h5

set_option maxRecDepth 100000 in
set_option maxHeartbeats 2000000 in
theorem cput_new (h : CacheO w c mm mc most f n g nc M C G F) (t k s x : ByteArray) (hn : n < 16) (hs : ¬ (65536 < x.size ∨ 524288 < k.size)) (ht : f t = none) :
    Calls Try.prog 22 #[pp c, .string t, .string k, .string s, .string x] w (CPutPost w c mm mc most g nc M C F t k s x) := by
  have hl := h.look t
  have c1 : w.cell? ⟨c, 1, none⟩ = some (.map (some mm)) := cell_of h.cell 1
  have c0 : w.cell? ⟨c, 0, none⟩ = some (.int .i64 most) := cell_of h.cell 0
  have hlen : ∀ t', (Builtin.len_ #[97] t' #[.map (some mm)]).run Try.prog w = .ok (.int .i64 n) w := fun t' => h.tm.len Try.underlying97
  have HN := Lib.hid hlen
  have hn' : ¬ (16 : Int) ≤ n := by omega
  have hMt := h.no t ht
  rw [ht] at hl
  have H := Lib.hid h
  have HM := Lib.hid hMt
  have q1 : ¬ (65536 : Int) < x.size := by omega
  have q2 : ¬ (524288 : Int) < k.size := by omega
  clear h hlen ht hs hMt
  go_enter Try.func22, Try.ntmps22
  go_wp2_with (at_len; refine wpList_maplen rfl _ _ rfl _ _ rfl (HN.out _) ?_)
  go_region_with (go_at_call 55; refine (anew most H.out.m0 _).mono ?_; rintro e w1 ⟨l, Fl, rfl, hL, hF, hB⟩; have H1 := Lib.hid (H.out.fr (Fr.of_drew hF) (by simp)); have d1 : w1.cell? ⟨c, 1, none⟩ = some (.map (some mm)) := cell_of H1.out.cell 1; have d0 : w1.cell? ⟨c, 0, none⟩ = some (.int .i64 most) := cell_of H1.out.cell 0; obtain ⟨w2, hst, hM2, hF2, hz2⟩ := H1.out.tm.store Try.underlying97 Try.underlying9 t (pp l))
  all_goals
    have hFw : Fr [] w w1 := Fr.of_drew hF
    have hBw : ∀ i ∈ Fl, w.heap.size ≤ i := hB
    have hmF : mm ∉ Fl := fun hm => by have := hBw mm hm; have := H.out.lt mm H.out.mF; omega
    have hL2 := hL.fr hF2 (fun i hi e => hmF (by rw [List.mem_singleton] at e; rwa [e] at hi))
    have H2 := Lib.hid (H1.out.put t l [] Fl hM2 hF2 hL2 (by have := H.out.m0; simp; omega) (fun i hi hm => by have := hBw i hi; have := H.out.lt i hm; omega))
    have hl2 := H2.out.look t
    rw [if_pos rfl] at hl2
    have e1 : w2.cell? ⟨c, 1, none⟩ = some (.map (some mm)) := cell_of H2.out.cell 1
    have HP := Lib.hid (aput hL2 k s x H.out.m0 H.out.m1 (by have := H.out.m0; simp; omega))
    have HFF := Lib.hid (And.intro hFw (And.intro hBw hF2))
    clear hst hM2 hF2 hL hF hB hL2 hFw hBw hl d1 d0 c1 c0 hz2
    go_wp2_with fail
    refine HP.out.mono ?_
    rintro e w3 ⟨⟨gg, ok, rfl⟩, ⟨F', hL3, hsub⟩, hF3⟩
    have HQ : Hid (CPutPost w c mm mc most g nc M C F t k s x (.returned (.int .i64 0)) w3) := by
      have hle : ((putE [] ⟨k, s, x⟩ most).length : Int) ≤ most := putE_len _ _ _ H.out.m0 (by have := H.out.m0; simp; omega)
      have h3 := H2.out.touch t l _ F' (by rw [if_pos rfl]) (by rw [if_pos rfl]; exact hF3) hL3 hle (by rw [if_pos rfl]; exact hsub)
      have hz := HFF.out.1.size
      have hz2 := HFF.out.2.2.size
      have hsub2 : ∀ i ∈ F', w.heap.size ≤ i := fun i hi => by
        rcases hsub i hi with h | h
        · exact HFF.out.2.1 i h
        · omega
      have e : putM M t k s x most = fun u => if u = t then some (putE [] ⟨k, s, x⟩ most) else (if u = t then some [] else M u) := by
        funext u; unfold putM; rw [HM.out]
        by_cases hu : u = t
        · rw [if_pos hu, if_pos hu]; rfl
        · rw [if_neg hu, if_neg hu, if_neg hu]
      rw [← e] at h3
      refine ⟨rfl, ⟨_, _, _, _, h3, fun i hi => ?_⟩, ?_⟩
      · rcases List.mem_append.1 hi with h5 | h5
        · exact .inr (hsub2 i h5)
        · rcases List.mem_append.1 h5 with h6 | h6
          · exact .inr (HFF.out.2.1 i h6)
          · exact .inl h6
      · refine fr_then (fr_then (HFF.out.1.mono (by simp)) HFF.out.2.2 (fun i hi => .inl (by rw [List.mem_singleton.1 hi]; exact H.out.mF))) hF3 (fun i hi => .inr (HFF.out.2.1 i hi))
    clear hL3 hsub hF3
    go_wp2_with fail
    go_ret
    exact HQ.out
end
end Go.Proofs.Ytoichcjlfpijeaa