/-
  Texts as lists of bytes: their parts, joined and compared.
-/
import Derived.Test.YtjbkfkgdpbjliaaDoorBytes
namespace Go.Proofs.YtjbkfkgdpbjliaaDoor
set_option maxRecDepth 100000
open Go.RowKit

theorem txt_toList (l : List UInt8) : (txt l).toList = l := by rw [ByteArray.toList_eq, txt_data]
theorem txt_tail (c : UInt8) (r : List UInt8) : (txt (c :: r)).extract 1 (txt (c :: r)).size = txt r := by
  have e : ((txt (c :: r)).extract 1 (txt (c :: r)).size).data.toList = r := by
    rw [ByteArray.data_extract, Array.toList_extract, txt_data, txt_size]
    simp [List.extract]
  rw [← txt_eta ((txt (c :: r)).extract 1 (txt (c :: r)).size), e]
theorem txt_head (c : UInt8) (r : List UInt8) (h : 0 < (txt (c :: r)).size) : (txt (c :: r))[0] = c := rfl
/-- What a walk asks of a text that is not empty. -/
theorem txt_cons (c : UInt8) (r : List UInt8) : ∃ S, S = txt (c :: r) ∧ (¬ S.toList = []) ∧ S.toList.isEmpty = false ∧ S.extract 1 (r.length + 1) = txt r ∧ S.size = r.length + 1 ∧ ∃ h : 0 < S.size, S[0].toNat = c.toNat :=
  ⟨_, rfl, by rw [txt_toList]; simp, by rw [txt_toList]; rfl, by have := txt_tail c r; rwa [txt_size] at this, by rw [txt_size]; rfl, by rw [txt_size]; simp, by rw [txt_head]⟩

theorem extract_list (l : List UInt8) (i j : Nat) : (txt l).extract i j = txt ((l.take j).drop i) := by
  have e : ((txt l).extract i j).data.toList = (l.take j).drop i := by
    rw [ByteArray.data_extract, Array.toList_extract, txt_data]
    simp [List.extract, List.drop_take]
  rw [← txt_eta ((txt l).extract i j), e]
theorem two_eq (x y : UInt8) (t : List UInt8) (a b : UInt8) : (((txt (x :: y :: t)).extract 0 2).toList == [a, b]) = decide (x.toNat = a.toNat ∧ y.toNat = b.toNat) := by
  rw [extract_list, txt_toList]
  have e : ((x :: y :: t).take 2).drop 0 = [x, y] := rfl
  rw [e, Bool.eq_iff_iff, beq_iff_eq, decide_eq_true_iff]
  simp [UInt8.toNat_inj]

end Go.Proofs.YtjbkfkgdpbjliaaDoor
