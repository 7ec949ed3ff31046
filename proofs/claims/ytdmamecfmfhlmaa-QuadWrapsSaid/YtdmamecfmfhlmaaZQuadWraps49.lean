/-
  made where its list is refused; Wrap and Peel of what From makes: plain.
-/
import Derived.Test.YtdmamecfmfhlmaaZQuadWrapsQMade
import Derived.Test.YtdmamecfmfhlmaaZQuadWrapsQPeel
import Derived.Test.YtdmamecfmfhlmaaZQuadWrapsQFromMath
namespace Go.Proofs.Ytdmamecfmfhlmaa
set_option maxRecDepth 100000
open Go.RowKit

set_option maxHeartbeats 2000000 in
theorem made_bad (zs : CellL) (a : Option Addr) (c : Nat) (w : World) (hs : Sl w 2 16 a zs.length c (zs.flatMap encCell)) (hbad : (tidyF zs).2 ≠ 0) (hlen : zs.length ≤ 300) :
    Calls Try.prog 10 #[.slice a zs.length c] w fun e w' => (∃ b : Nat, e = .returned (.tuple #[.pointer (some ⟨b, 0, none⟩), .int .i64 0, .int .i64 (tidyF zs).2, .bool true])) ∧ Below w.heap.size w w' := by
  have HN := Lib.hid (arenaNew_any 200000 w (by omega))
  rw [show ((200000 : Nat) : Int) = (200000 : Int) from rfl] at HN
  have HS := Lib.hid hs
  have HBAD := Lib.hid hbad
  obtain ⟨n, hn⟩ : ∃ n, n = zs.length := ⟨_, rfl⟩
  obtain ⟨er, her⟩ : ∃ er, er = (tidyF zs).2 := ⟨_, rfl⟩
  rw [← hn, ← her]
  have HL := Lib.hid hn
  have HER := Lib.hid her
  clear hs hbad hn her
  go_enter Try.func10, Try.ntmps10
  go_wp2_with fail
  with_reducible refine HN.out.mono ?_
  rintro e w1 ⟨arr, rfl, hb, h0, h1, h2, hsz, ha⟩
  have HB := Lib.hid hb
  have HCE := Lib.hid (cells_any zs a c w1 (HS.out.below (by omega) hb))
  unfold Cells at HCE
  rw [← HL.out] at HCE
  clear hb h0 h1 h2 hsz ha
  go_wp2_with fail
  with_reducible refine HCE.out.mono ?_
  rintro e w2 ⟨v, rfl, hb2, hown⟩
  obtain ⟨a2, c2, rfl, hsl⟩ := sl_of_own (bytes := 16) hown (by have := HL.out; omega)
  rw [HL.out] at hsl
  have HF := Lib.hid (from_bad (w.heap.size + 2) 3 zs a2 c2 w2 hsl HBAD.out)
  rw [← HL.out, ← HER.out, show ((3 : Nat) : Int) = (3 : Int) from rfl] at HF
  have HB2 := Lib.hid (HB.out.trans (hb2.mono HB.out.size))
  clear hb2 hown hsl
  go_wp2_with fail
  with_reducible refine HF.out.mono ?_
  rintro e w3 ⟨rfl, hb3⟩
  have HB3 := Lib.hid (HB2.out.trans (hb3.mono HB2.out.size))
  clear hb3
  go_wp2_with fail
  refine bodyPost_ret (v := .tuple #[.pointer (some ⟨w.heap.size + 2, 0, none⟩), .int .i64 0, .int .i64 er, .bool true]) (by simp [results, Try.results10, go_sem]) rfl ?_
  exact ⟨⟨_, rfl⟩, HB3.out⟩
theorem sl_take {w : World} {a : Option Addr} {cap : Nat} {zs : CellL} (h : Sl w 2 16 a zs.length cap (zs.flatMap encCell)) (m : Nat) : Sl w 2 16 a (zs.take m).length cap ((zs.take m).flatMap encCell) := by
  have hl : (zs.take m).length ≤ zs.length := by rw [List.length_take]; omega
  refine ⟨flat_length (k := 2) (enc := encCell) (fun _ => rfl) _, Nat.le_trans hl h.room, h.fits, h.nil, Nat.le_trans (Nat.mul_le_mul_right _ hl) h.wide, fun hp => ?_⟩
  obtain ⟨b, o, e, hr⟩ := h.row (by omega)
  refine ⟨b, o, e, fun j u hu => hr j u ?_⟩
  have hsplit : zs.flatMap encCell = (zs.take m).flatMap encCell ++ (zs.drop m).flatMap encCell := by rw [← List.flatMap_append, List.take_append_drop]
  rw [hsplit, List.getElem?_append_left (List.getElem?_eq_some_iff.1 hu).1]
  exact hu
theorem Tight.same {base : Nat} {w w' : World} {v : Value} {xs : List (Int × Int)} (h : Tight base w v xs) (he : ∀ g, base ≤ g → g < w.heap.size → w'.heap[g]? = w.heap[g]?) : Tight base w' v xs := by
  rcases h with h | ⟨g, cap, sp, rfl, hh, h0, h1⟩
  · exact .inl h
  · exact .inr ⟨g, cap, sp, rfl, (he g h0 hh.lt).trans hh, h0, h1⟩
theorem quo_grew {n t s : Nat} {S : ArS} (h : Grew s (newS n) S) (ht : t < 64) : S.quo t = n ∧ S.room = n := by
  have hr := h.room
  refine ⟨?_, hr.1⟩
  have : S.quo t = (newS n).quo t := by unfold ArS.quo; rw [hr.2]
  rw [this, newS_quo n ht]
theorem made_bud {S : ArS} {lev len c : Nat} (h : Grew 3 (newS 200000) S) (hl : liveL S.L + miss S.L 3 ≤ 44 + lev * len) (h1 : lev ≤ 41) (h2 : len ≤ 300) (hc : c ≤ 1000) : Bud 3 S c := by
  obtain ⟨q1, q2⟩ := quo_grew h (t := 3) (by omega)
  have hm : lev * len ≤ 41 * 300 := Nat.mul_le_mul h1 h2
  exact ⟨by rw [q2]; omega, by rw [q1]; omega⟩
end Go.Proofs.Ytdmamecfmfhlmaa
namespace Go.Proofs.Ytdmamecfmfhlmaa
set_option maxRecDepth 100000

theorem cnt_wrap (n : Nat) (a b c d : Tree) : cnt (wrapT n a b c d) = cnt (.node a b c d) := by
  have h0 : cnt (emptyT n) = 0 := (cnt_zero (full_empty n)).2 rfl
  show (cnt (emptyT n) + cnt (emptyT n) + cnt (emptyT n) + cnt a) + (cnt (emptyT n) + cnt (emptyT n) + cnt b + cnt (emptyT n)) + (cnt (emptyT n) + cnt c + cnt (emptyT n) + cnt (emptyT n)) + (cnt d + cnt (emptyT n) + cnt (emptyT n) + cnt (emptyT n)) = cnt a + cnt b + cnt c + cnt d
  omega
/-- The least square does not fit into one less. -/
theorem least_fits {n : Nat} {s : CellL} (h : Least s (n + 3)) : fitsT (buildT (n + 3) (-((2 ^ (n + 2) : Nat) : Int)) (-((2 ^ (n + 2) : Nat) : Int)) s) = false := by
  cases hf : fitsT (buildT (n + 3) (-((2 ^ (n + 2) : Nat) : Int)) (-((2 ^ (n + 2) : Nat) : Int)) s) with
  | false => rfl
  | true =>
    exfalso
    have hb := within_box (by omega) h.all
    rw [show n + 3 - 1 = n + 2 from rfl] at hb
    have hmb := fun z => mem_build (z := z) hb
    obtain ⟨a, b, c, d, e, _⟩ := fits_wrap (n := n + 1) (full_build _ _ _ _) hf
    rw [e] at hmb
    have hp : ((2 ^ (n + 2) : Nat) : Int) = 2 ^ (n + 1) + 2 ^ (n + 1) := by
      rw [Int.natCast_pow]
      show (2 : Int) ^ (n + 2) = _
      rw [Int.pow_succ]; omega
    have hp1 : ((2 ^ (n + 1) : Nat) : Int) = 2 ^ (n + 1) := by rw [Int.natCast_pow]; rfl
    refine h.least (n + 2) (by omega) (by omega) fun z hz => ?_
    rw [show n + 2 - 1 = n + 1 from rfl, hp1]
    have h1 := (hmb z).2 hz
    rw [show n + 3 = (n + 1) + 2 from rfl, cellsT_wrap] at h1
    have h2 := cellsT_in h1
    have e2 : (2 : Int) ^ (n + 1 + 1) = 2 ^ (n + 1) + 2 ^ (n + 1) := by rw [Int.pow_succ]; omega
    rw [hp, e2] at h2
    omega
/-- The wrapped root peels to the root. -/
theorem peel_wrap {k : Nat} {s : CellL} {a b c d : Tree} (h : Least s (k + 1)) (hT : buildT (k + 1) (-((2 ^ k : Nat) : Int)) (-((2 ^ k : Nat) : Int)) s = .node a b c d) : peelT (k + 2) (wrapT k a b c d) = .node a b c d ∧ peelL (k + 2) (wrapT k a b c d) = k + 1 := by
  obtain ⟨m, rfl⟩ : ∃ m, k = m + 1 := ⟨k - 1, by have := h.lo; omega⟩
  obtain ⟨hw, hi⟩ := wrap_fits (m + 1) a b c d
  obtain ⟨p1, p2⟩ := peel_fits (n := m) hw
  rw [hi] at p1 p2
  rw [show m + 1 + 2 = m + 3 from rfl, p1, p2]
  match m, h, hT with
  | 0, _, _ => exact ⟨rfl, rfl⟩
  | j + 1, h, hT =>
    have hf := least_fits h
    rw [show j + 3 = j + 1 + 1 + 1 from rfl, show j + 2 = j + 1 + 1 from rfl, hT] at hf
    obtain ⟨q1, q2⟩ := peel_stops (n := j) hf
    exact ⟨q1, q2⟩
end Go.Proofs.Ytdmamecfmfhlmaa
