/-
  Bytes that the call has gathered, as a text; texts joined.
-/
import Derived.Test.YtffgpjkkgndkiaaKinds
import Derived.Lib.ConvBytes
import Derived.Lib.AtoiErrMem
import Derived.Laws.BytesArg
namespace Go.Proofs.Ytffgpjkkgndkiaa
set_option maxRecDepth 100000
open Go.RowKit

/-- A text out of a list of bytes. -/
def txt (l : List UInt8) : ByteArray := ⟨l.toArray⟩
theorem txt_eta (s : ByteArray) : txt s.data.toList = s := by cases s; simp [txt]
theorem txt_data (l : List UInt8) : (txt l).data.toList = l := by simp [txt]
theorem txt_size (l : List UInt8) : (txt l).size = l.length := by simp [txt, ByteArray.size]
theorem txt_add (a b : List UInt8) : txt a ++ txt b = txt (a ++ b) := by
  have h := Joins.data_append (txt a) (txt b)
  rw [txt_data, txt_data] at h
  rw [← txt_eta (txt a ++ txt b), h]
theorem txt_inj {a b : List UInt8} (h : txt a = txt b) : a = b := by rw [← txt_data a, h, txt_data]
def encB (l : List UInt8) : List Value := l.map fun c => .int .u8 c.toNat
theorem encB_append (a b : List UInt8) : encB (a ++ b) = encB a ++ encB b := by simp [encB]
theorem encB_length (a : List UInt8) : (encB a).length = a.length := by simp [encB]
end Go.Proofs.Ytffgpjkkgndkiaa
