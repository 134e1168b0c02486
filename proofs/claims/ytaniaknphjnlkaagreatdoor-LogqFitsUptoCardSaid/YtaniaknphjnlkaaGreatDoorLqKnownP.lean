/- The fixed calls of 'known' (plain). -/
import Derived.Test.YtaniaknphjnlkaaGreatDoorLqBackP
import Derived.Lib.ValidU
import Derived.KernelRfl
namespace Go.Lq

def known1 : Bs := [123, 101, 110, 118, 61, 34, 112, 114, 111, 100, 34, 125, 32, 124, 61, 32, 34, 101, 114, 114, 111, 114, 34, 32, 124, 32, 108, 101, 118, 101, 108, 32, 57, 32, 124, 32, 117, 115, 101, 114, 33, 61, 34, 97, 110, 110, 34, 32, 124, 32, 108, 105, 109, 105, 116, 32, 53]
def known2 : Bs := [123, 125, 32, 124]
def known3 : Bs := [123, 101, 110, 118, 61, 34, 112, 114, 111, 100, 34, 125, 32, 124, 32, 108, 101, 118, 101, 108, 32, 57, 32, 124, 61, 32, 34, 101, 114, 114, 111, 114, 34, 32, 124, 32, 117, 115, 101, 114, 33, 61, 34, 97, 110, 110, 34, 32, 124, 32, 108, 105, 109, 105, 116, 32, 53]
def knownQ : Qy := ⟨[⟨1, [101, 110, 118], [112, 114, 111, 100]⟩], 9, [⟨3, [], [101, 114, 114, 111, 114]⟩, ⟨2, [117, 115, 101, 114], [97, 110, 110]⟩], 5⟩
theorem read1 : readL known1 = .ok knownQ [] := by rfl
theorem read2 : readL known2 = .bad [] := by rfl
theorem digs9 : digs 9 = [57] := by rw [digs, if_pos (by omega)]; rfl
theorem digs5 : digs 5 = [53] := by rw [digs, if_pos (by omega)]; rfl
theorem text3 : textP knownQ = known3 := by
  have h1 : levelText 9 = 124 :: 32 :: (wLevel ++ 32 :: [57]) := by unfold levelText; rw [show (9 : Int).toNat = 9 from rfl, digs9]
  have h2 : limitText 5 = 124 :: 32 :: (wLimit ++ 32 :: [53]) := by unfold limitText; rw [show (5 : Int).toNat = 5 from rfl, digs5]
  unfold textP partsP knownQ
  simp only [h1, h2]
  rfl
theorem right3 : rightQ Go.Lib.validD knownQ = 0 := by
  unfold rightQ
  rw [text3]
  kernel_rfl
end Go.Lq
