/-
  Texts in frames: plain lists of bytes.
-/
import Derived.Test.YtffgpjkkgndkiaaDoorTexts
import Derived.Test.YtffgpjkkgndkiaaDoorMem
import Derived.Lib.UnsafeStr
namespace Go.Proofs.YtffgpjkkgndkiaaDoor
set_option maxRecDepth 100000
open Go.RowKit

def frameOf (m : UInt8) (l : List UInt8) : List UInt8 := m :: UInt8.ofNat l.length :: (l ++ List.replicate (126 - l.length) 0)
def wrapF (l : List UInt8) : List UInt8 := if _h : 126 < l.length then frameOf 1 (l.take 126) ++ wrapF (l.drop 126) else frameOf 0 l
termination_by l.length
decreasing_by simp; omega
theorem wrapF_long {l : List UInt8} (h : 126 < l.length) : wrapF l = frameOf 1 (l.take 126) ++ wrapF (l.drop 126) := by rw [wrapF, dif_pos h]
theorem wrapF_short {l : List UInt8} (h : l.length ≤ 126) : wrapF l = frameOf 0 l := by rw [wrapF, dif_neg (by omega)]
theorem frameOf_length (m : UInt8) {l : List UInt8} (h : l.length ≤ 126) : (frameOf m l).length = 128 := by simp [frameOf]; omega
theorem wrapF_length (l : List UInt8) : (wrapF l).length ≤ 128 * (l.length / 126 + 1) := by
  rw [wrapF]
  split
  · next h =>
    have ih := wrapF_length (l.drop 126)
    have e : (l.drop 126).length = l.length - 126 := by simp
    rw [e] at ih
    rw [List.length_append, frameOf_length 1 (by simp; omega)]
    have : (l.length - 126) / 126 + 1 = l.length / 126 := by omega
    rw [this] at ih
    omega
  · next h => rw [frameOf_length 0 (by omega)]; omega
termination_by l.length
decreasing_by simp; omega
def frameA (m k : Nat) : Array Value := ((zerosA 128).setIfInBounds 0 (Value.int .u8 m)).setIfInBounds 1 (Value.int .u8 k)
theorem frameA_size (m k : Nat) : (frameA m k).size = 128 := by simp [frameA, zerosA_size]
theorem zerosA_128 : (zerosA 128).toList = .int .u8 0 :: .int .u8 0 :: List.replicate 126 (.int .u8 0) := rfl
theorem frameA0 (k : Nat) : frameA 0 k = (zerosA 128).setIfInBounds 1 (Value.int .u8 k) := by
  have e : (zerosA 128).setIfInBounds 0 (Value.int .u8 (0 : Nat)) = zerosA 128 := by
    apply Array.toList_inj.1
    rw [Array.toList_setIfInBounds, zerosA_128]; rfl
  rw [frameA, e]
theorem frameA_list (m k : Nat) : (frameA m k).toList = .int .u8 m :: .int .u8 k :: List.replicate 126 (.int .u8 0) := by
  rw [frameA, Array.toList_setIfInBounds, Array.toList_setIfInBounds, zerosA_128]
  rfl
theorem byteCells_append (a b : List UInt8) : Lib.byteCells (a ++ b) = Lib.byteCells a ++ Lib.byteCells b := by simp [Lib.byteCells]
/-- What the copied row holds: the frame. -/
theorem frame_row {m k : Nat} {l : List UInt8} (hm : m < 256) (hk : l.length = k) (h : k ≤ 126) :
    (frameA m k).toList.take 2 ++ (Lib.byteCells l ++ (frameA m k).toList.drop (2 + k)) = Lib.byteCells (frameOf (UInt8.ofNat m) l) := by
  have e1 : (UInt8.ofNat m).toNat = m := by simp; omega
  have e2 : (UInt8.ofNat l.length).toNat = k := by simp; omega
  have e3 : (List.replicate 126 (Value.int .u8 0)).drop k = List.replicate (126 - k) (Value.int .u8 0) := List.drop_replicate
  have e4 : Lib.byteCells (List.replicate (126 - k) 0) = List.replicate (126 - k) (Value.int .u8 0) := by rw [Lib.byteCells, List.map_replicate]; rfl
  have e5 : (frameA m k).toList.drop (2 + k) = List.replicate (126 - k) (Value.int .u8 0) := by
    rw [frameA_list, Nat.add_comm]; exact e3
  rw [e5, frameA_list, frameOf, hk, ← e4, ← byteCells_append]
  rw [hk] at e2
  simp only [List.take, Lib.byteCells, List.map_cons, e1, e2]
  rfl
def wrapM (s more : Value) : Nat := match s, more with
  | .string s, .bool true => s.size + 1
  | .string s, .bool false => s.size
  | _, _ => 0
theorem frame_pad {m k : Nat} {l g0 : List UInt8} (hg : g0 = [UInt8.ofNat m, UInt8.ofNat k] ++ l) (hk : l.length = k) (j : Nat) (hj : 2 + k + j = 128) : g0 ++ List.replicate j 0 = frameOf (UInt8.ofNat m) l := by
  subst hg
  subst hk
  rw [frameOf, show 126 - l.length = j by omega]
  simp
theorem pad_snoc (g : List UInt8) (j : Nat) : g ++ List.replicate j 0 ++ [0] = g ++ List.replicate (j + 1) 0 := by
  rw [List.append_assoc, ← List.replicate_succ']
def strSz : Value → Nat
  | .string s => s.size
  | _ => 0
end Go.Proofs.YtffgpjkkgndkiaaDoor
