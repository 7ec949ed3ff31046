/-
  Bytes that the call has gathered, as a text; texts joined; Texts as lists of bytes: their parts, joined and compared.
-/
import Derived.Lib.ConvBytes
import Derived.Lib.AtoiErrMem
import Derived.Laws.BytesArg
import Derived.Test.YtdmamecfmfhlmaaGreatDoorKinds
namespace Go.Proofs.YtdmamecfmfhlmaaGreatDoor
set_option maxRecDepth 100000
open Go.RowKit

/-- A text out of a list of bytes. -/
def txt (l : List UInt8) : ByteArray := ⟨l.toArray⟩
theorem txt_eta (s : ByteArray) : txt s.data.toList = s := by cases s; simp [txt]
theorem txt_data (l : List UInt8) : (txt l).data.toList = l := by simp [txt]
theorem txt_size (l : List UInt8) : (txt l).size = l.length := by simp [txt, ByteArray.size]
theorem txt_add (a b : List UInt8) : txt a ++ txt b = txt (a ++ b) := by
  have h := Joins.data_append (txt a) (txt b)
  rw [txt_data, txt_data] at h
  rw [← txt_eta (txt a ++ txt b), h]
theorem txt_inj {a b : List UInt8} (h : txt a = txt b) : a = b := by rw [← txt_data a, h, txt_data]
def encB (l : List UInt8) : List Value := l.map fun c => .int .u8 c.toNat
theorem encB_append (a b : List UInt8) : encB (a ++ b) = encB a ++ encB b := by simp [encB]
theorem encB_length (a : List UInt8) : (encB a).length = a.length := by simp [encB]
theorem infoByte : (Tryz.prog.info? 5).map (fun i => (i.zero, i.size, i.bytes)) = some (some (.int .u8 0), 1, 1) := by kernel_rfl
theorem conv_own {w : World} {base n : Nat} {v : Value} {l : List UInt8} (h : w.ownsRow base 5 1 v n (encB l)) : (convert 42 9 v).run Tryz.prog w = .ok (.string (txt l)) w := by
  have hl : l.length = n := by have := h.1; rw [encB_length] at this; omega
  rcases h.2 with ⟨rfl, h0⟩ | ⟨g, cap, cur, rfl, _, hg, _⟩
  · have hn : l = [] := List.eq_nil_of_length_eq_zero (by omega)
    subst hn
    exact run_convert_bytes_nil w _ _ Tryz.underlying42 Tryz.underlying5 0 0 _ Tryz.underlying9
  · have hc := h.cells (g := g) rfl
    have h1 := run_convert_bytes_arg (P := Tryz.prog) w 42 5 Tryz.underlying42 Tryz.underlying5 g 0 n cap (l.map fun c => (c.toNat : Int)) (by simp [hl]) (fun i hi => by
      have := hc i (.int .u8 (l.getD i 0).toNat) (by simp [encB, List.getD, show i < l.length by omega])
      rw [Addr.add_lit] at this
      rw [this]
      simp [List.getD, show i < l.length by omega]) 9 Tryz.underlying9
    rw [h1]
    congr 2
    rw [← txt_eta (strOfNums _), strOfNums_data]
    congr 1
    rw [List.map_map]
    have e : ((fun n : Int => UInt8.ofNat n.toNat) ∘ fun c : UInt8 => (c.toNat : Int)) = id := by funext c; simp
    rw [e, List.map_id]
end Go.Proofs.YtdmamecfmfhlmaaGreatDoor
namespace Go.Proofs.YtdmamecfmfhlmaaGreatDoor
set_option maxRecDepth 100000
open Go.RowKit

theorem txt_toList (l : List UInt8) : (txt l).toList = l := by rw [ByteArray.toList_eq, txt_data]
theorem txt_tail (c : UInt8) (r : List UInt8) : (txt (c :: r)).extract 1 (txt (c :: r)).size = txt r := by
  have e : ((txt (c :: r)).extract 1 (txt (c :: r)).size).data.toList = r := by
    rw [ByteArray.data_extract, Array.toList_extract, txt_data, txt_size]
    simp [List.extract]
  rw [← txt_eta ((txt (c :: r)).extract 1 (txt (c :: r)).size), e]
theorem txt_head (c : UInt8) (r : List UInt8) (h : 0 < (txt (c :: r)).size) : (txt (c :: r))[0] = c := rfl
/-- What a walk asks of a text that is not empty. -/
theorem txt_cons (c : UInt8) (r : List UInt8) : ∃ S, S = txt (c :: r) ∧ (¬ S.toList = []) ∧ S.toList.isEmpty = false ∧ S.extract 1 (r.length + 1) = txt r ∧ S.size = r.length + 1 ∧ ∃ h : 0 < S.size, S[0].toNat = c.toNat :=
  ⟨_, rfl, by rw [txt_toList]; simp, by rw [txt_toList]; rfl, by have := txt_tail c r; rwa [txt_size] at this, by rw [txt_size]; rfl, by rw [txt_size]; simp, by rw [txt_head]⟩

theorem extract_list (l : List UInt8) (i j : Nat) : (txt l).extract i j = txt ((l.take j).drop i) := by
  have e : ((txt l).extract i j).data.toList = (l.take j).drop i := by
    rw [ByteArray.data_extract, Array.toList_extract, txt_data]
    simp [List.extract, List.drop_take]
  rw [← txt_eta ((txt l).extract i j), e]
theorem two_eq (x y : UInt8) (t : List UInt8) (a b : UInt8) : (((txt (x :: y :: t)).extract 0 2).toList == [a, b]) = decide (x.toNat = a.toNat ∧ y.toNat = b.toNat) := by
  rw [extract_list, txt_toList]
  have e : ((x :: y :: t).take 2).drop 0 = [x, y] := rfl
  rw [e, Bool.eq_iff_iff, beq_iff_eq, decide_eq_true_iff]
  simp [UInt8.toNat_inj]

end Go.Proofs.YtdmamecfmfhlmaaGreatDoor
