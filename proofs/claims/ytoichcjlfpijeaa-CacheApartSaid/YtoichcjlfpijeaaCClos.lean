/- The cache's Get: the call that it defers. -/
import Derived.Test.YtoichcjlfpijeaaCPutC
import Derived.Defers
namespace Go.Proofs.Ytoichcjlfpijeaa
open Go.RowKit Go.Bl
section
variable {w : World} {c mm mc : Nat} {most : Int} {f : ByteArray → Option Value} {n : Nat} {g : ByteArray → Option Value} {nc : Nat} {M : ByteArray → Option (List Ent1)} {C : ByteArray → Int × Int} {G : ByteArray → List Nat} {F : List Nat}

def setC (C : ByteArray → Int × Int) (t : ByteArray) (v : Int × Int) : ByteArray → Int × Int := fun u => if u = t then v else C u
theorem CacheO.count {w2 : World} (h : CacheO w c mm mc most f n g nc M C G F) (t : ByteArray) (v : Int × Int) {nc' : Nat} (hM : MapAt w2 mc (fun x => if x = t then some (.agg #[.int .i64 v.1, .int .i64 v.2]) else g x) nc') (hF : Fr [mc] w w2) :
    CacheO w2 c mm mc most f n (fun x => if x = t then some (.agg #[.int .i64 v.1, .int .i64 v.2]) else g x) nc' M (setC C t v) G F :=
  { h with
    cell := hF.obj h.cell (by simpa using Ne.symm h.ncm.2)
    tm := h.tm.fr hF (by simpa using h.ne)
    cm := hM
    yes := fun u v hv => by
      obtain ⟨l, L, h1, h2, h3, h4⟩ := h.yes u v hv
      exact ⟨l, L, h1, h2, h3.fr hF (fun i hi => by simpa using (h.own u (by rw [hv]; simp) i hi).2.2), h4⟩
    cnt := fun u => by
      unfold setC
      by_cases e : u = t
      · rw [if_pos e, if_pos e]; rfl
      · rw [if_neg e, if_neg e]; exact h.cnt u
    lt := fun i hi => Nat.lt_of_lt_of_le (h.lt i hi) hF.size }

def ClosPost (w : World) (c mm mc : Nat) (most : Int) (f : ByteArray → Option Value) (n : Nat) (M : ByteArray → Option (List Ent1)) (C : ByteArray → Int × Int) (G : ByteArray → List Nat) (F : List Nat) (w' : World) : Prop :=
  (∃ g' nc', CacheO w' c mm mc most f n g' nc' M C G F) ∧ Fr [mc] w w'

set_option maxRecDepth 100000 in
theorem clos_d (h : CacheO w c mm mc most f n g nc M C G F) (nb cb tb : Nat) (t : ByteArray) (x y : Int) (u : FrameMode) (hn0 : w.cell? ⟨nb, 0, none⟩ = some (.int .i64 x)) (hn1 : w.cell? ⟨nb, 1, none⟩ = some (.int .i64 y))
    (hc : w.cell? ⟨cb, 0, none⟩ = some (pp c)) (ht : w.cell? ⟨tb, 0, none⟩ = some (.string t)) :
    CallsD Try.prog 51 #[pp nb, pp cb, pp tb] u w fun e u' w' => u' = u ∧ (e = .returned (.tuple #[]) ∧ ClosPost w c mm mc most f n M (setC C t (x, y)) G F w') := by
  have hd := h.fr ((Fr.refl [] w).drew) (by simp)
  obtain ⟨w2, hst, hM, hF, _⟩ := hd.cm.store Try.underlying98 Try.underlying9 t (.agg #[.int .i64 x, .int .i64 y])
  have HP : Hid (ClosPost w c mm mc most f n M (setC C t (x, y)) G F w2) := ⟨⟨_, _, hd.count t (x, y) hM hF⟩, Fr.of_drew hF⟩
  have c2 : w.cell? ⟨c, 2, none⟩ = some (.map (some mc)) := cell_of h.cell 2
  clear h hd hM hF
  go_enter_d Try.func51, Try.ntmps51
  go_wp2
  go_region
  all_goals
    go_wp2
    go_end0
    exact ⟨rfl, HP.out⟩
end
end Go.Proofs.Ytoichcjlfpijeaa
