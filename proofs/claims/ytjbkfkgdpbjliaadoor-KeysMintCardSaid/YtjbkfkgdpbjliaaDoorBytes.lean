/-
  Bytes that the call has gathered, as a text; texts joined.
-/
import Derived.Test.YtjbkfkgdpbjliaaDoorKinds
import Derived.Lib.ConvBytes
import Derived.Lib.AtoiErrMem
import Derived.Laws.BytesArg
namespace Go.Proofs.YtjbkfkgdpbjliaaDoor
set_option maxRecDepth 100000
open Go.RowKit

/-- A text out of a list of bytes. -/
def txt (l : List UInt8) : ByteArray := ⟨l.toArray⟩
theorem txt_eta (s : ByteArray) : txt s.data.toList = s := by cases s; simp [txt]
theorem txt_data (l : List UInt8) : (txt l).data.toList = l := by simp [txt]
theorem txt_size (l : List UInt8) : (txt l).size = l.length := by simp [txt, ByteArray.size]
theorem txt_add (a b : List UInt8) : txt a ++ txt b = txt (a ++ b) := by
  have h := Joins.data_append (txt a) (txt b)
  rw [txt_data, txt_data] at h
  rw [← txt_eta (txt a ++ txt b), h]
theorem txt_inj {a b : List UInt8} (h : txt a = txt b) : a = b := by rw [← txt_data a, h, txt_data]
def encB (l : List UInt8) : List Value := l.map fun c => .int .u8 c.toNat
theorem encB_append (a b : List UInt8) : encB (a ++ b) = encB a ++ encB b := by simp [encB]
theorem encB_length (a : List UInt8) : (encB a).length = a.length := by simp [encB]
theorem infoByte : (Tryd.prog.info? 5).map (fun i => (i.zero, i.size, i.bytes)) = some (some (.int .u8 0), 1, 1) := by kernel_rfl
theorem conv_own {w : World} {base n : Nat} {v : Value} {l : List UInt8} (h : w.ownsRow base 5 1 v n (encB l)) : (convert 54 9 v).run Tryd.prog w = .ok (.string (txt l)) w := by
  have hl : l.length = n := by have := h.1; rw [encB_length] at this; omega
  rcases h.2 with ⟨rfl, h0⟩ | ⟨g, cap, cur, rfl, _, hg, _⟩
  · have hn : l = [] := List.eq_nil_of_length_eq_zero (by omega)
    subst hn
    exact run_convert_bytes_nil w _ _ Tryd.underlying54 Tryd.underlying5 0 0 _ Tryd.underlying9
  · have hc := h.cells (g := g) rfl
    have h1 := run_convert_bytes_arg (P := Tryd.prog) w 54 5 Tryd.underlying54 Tryd.underlying5 g 0 n cap (l.map fun c => (c.toNat : Int)) (by simp [hl]) (fun i hi => by
      have := hc i (.int .u8 (l.getD i 0).toNat) (by simp [encB, List.getD, show i < l.length by omega])
      rw [Addr.add_lit] at this
      rw [this]
      simp [List.getD, show i < l.length by omega]) 9 Tryd.underlying9
    rw [h1]
    congr 2
    rw [← txt_eta (strOfNums _), strOfNums_data]
    congr 1
    rw [List.map_map]
    have e : ((fun n : Int => UInt8.ofNat n.toNat) ∘ fun c : UInt8 => (c.toNat : Int)) = id := by funext c; simp
    rw [e, List.map_id]
end Go.Proofs.YtjbkfkgdpbjliaaDoor
