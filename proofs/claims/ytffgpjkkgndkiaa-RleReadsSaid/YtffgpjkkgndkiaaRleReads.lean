/-
  For all texts, rle.Decode answers what the document's DecodeCells answers; no condition.
-/
import Derived.Test.YtffgpjkkgndkiaaRefDecode
import Derived.Test.YtffgpjkkgndkiaaPuts
namespace Go.Proofs.Ytffgpjkkgndkiaa
set_option maxRecDepth 100000
open Go.RowKit

theorem scanG_length (wd ht : Nat) : ∀ (k : Nat) (l : List UInt8) (X Y : Nat) (out : List (Int × Int)), out.length ≤ 4096 → (scanG wd ht k l X Y out).1.length ≤ 4096
  | 0, _, _, _, _, _ => by simp [scanG]
  | k + 1, l, X, Y, out, h => by
    rw [scanG]
    split
    · simp
    · split
      · exact scanG_length wd ht k _ _ _ _ h
      · split
        · exact h
        · split
          · exact scanG_length wd ht k _ _ _ _ h
          · split
            · exact scanG_length wd ht k _ _ _ _ h
            · split
              · split
                · simp
                · split
                  · simp
                  · exact scanG_length wd ht k _ _ _ _ (by rw [List.length_append, rowF_length]; omega)
              · simp
theorem decodeF_length (l : List UInt8) : (decodeF l).1.1.length ≤ 4096 := by
  unfold decodeF
  split
  · simp
  · unfold bodyF
    split
    · simp
    · split
      · simp
      · split
        · exact scanG_length _ _ _ _ _ _ _ (by simp)
        · simp
theorem decoded_of {w w' : World} {l : List UInt8} {e : Ending} {r : List (Int × Int)} {x0 x1 er : Int} (hr : ((r, (x0, x1)), er) = decodeF l) (h : Decoded w (decodeF l) e w') :
    ∃ a c, e = .returned (.tuple #[.slice a r.length c, .agg #[.int .i64 x0, .int .i64 x1], .int .i64 er]) ∧ Below w.heap.size w w' ∧ Tight w.heap.size w' (.slice a r.length c) r := by
  obtain ⟨v, he, hb, ht⟩ := h
  rw [← hr] at he ht
  obtain ⟨a, c, rfl, _, _⟩ := ht.form
  exact ⟨a, c, he, hb, ht⟩
def exRle : List UInt8 := [120, 32, 61, 32, 51, 44, 32, 121, 32, 61, 32, 49, 10, 51, 111, 33]
theorem exRle_is : decodeF exRle = (([(0, 0), (1, 0), (2, 0)], (8, 12)), 0) := by kernel_rfl
set_option maxHeartbeats 4000000 in
theorem law_rleReads (l : List UInt8) (w : World) (hl : l.length ≤ 140737488351232) :
    Calls Try.prog 3 #[.string (txt l)] w fun e w' => e = .returned (.bool true) ∧ Below w.heap.size w w' := by
  obtain ⟨⟨⟨r, ⟨x0, x1⟩⟩, er⟩, hR⟩ : ∃ R, R = decodeF l := ⟨_, rfl⟩
  have hrl : r.length ≤ 4096 := by have := decodeF_length l; rw [← hR] at this; exact this
  have HR := Lib.hid hR
  clear hR
  go_enter Try.func3, Try.ntmps3
  go_wp2_with fail
  refine (decode_any l _ hl).mono ?_
  intro e w1 h
  obtain ⟨a1, c1, rfl, hb1, ht1⟩ := decoded_of HR.out h
  have T1 := Lib.hid ht1
  clear h ht1
  go_wp2_with fail
  refine (refDecode_any l _ hl).mono ?_
  intro e w2 h
  obtain ⟨a2, c2, rfl, hb2, ht2⟩ := decoded_of HR.out h
  have hz2 := hb2.size
  simp only [World.size_alloc] at hz2
  have hB2 : Below w.heap.size w w2 := (hb1.alloc hb1.size _).trans (hb2.mono (by simp; have := hb1.size; omega))
  have k1 : w2.heap[w1.heap.size]? = some (.cells #[.int .i64 x0, .int .i64 x1] 24 (0, 0)) := by
    rw [hb2.block _ (by simp)]; exact blk_last w1 _ rfl
  have T2 := Lib.hid ht2
  have T12 := Lib.hid (T1.out.below (((Below.refl _ _).alloc (Nat.le_refl _) (.cells #[.int .i64 x0, .int .i64 x1] 24)).trans (hb2.mono (by simp))))
  clear h ht2
  go_wp2_with fail
  refine (decode_any exRle _ (by decide)).mono ?_
  intro e w3 h
  obtain ⟨a3, c3, rfl, hb3, ht3⟩ := decoded_of (r := [(0, 0), (1, 0), (2, 0)]) (x0 := 8) (x1 := 12) (er := 0) exRle_is.symm h
  have hz3 := hb3.size
  simp only [World.size_alloc] at hz3
  have hy : Below w2.heap.size w2 w3 := ((Below.refl _ _).alloc (Nat.le_refl _) (.cells #[.int .i64 x0, .int .i64 x1] 24)).trans (hb3.mono (by simp))
  have hB3 : Below w.heap.size w w3 := hB2.trans (hy.mono hB2.size)
  have k1' : w3.heap[w1.heap.size]? = some (.cells #[.int .i64 x0, .int .i64 x1] 24 (0, 0)) := (hy.block _ (by omega)).trans k1
  have k2 : w3.heap[w2.heap.size]? = some (.cells #[.int .i64 x0, .int .i64 x1] 24 (0, 0)) := by
    rw [hb3.block _ (by simp)]; exact blk_last w2 _ rfl
  have c0 : w3.cell? ⟨w1.heap.size, 0, none⟩ = some (.int .i64 x0) := Joins.cell_of_block k1' 0
  have c1 : w3.cell? ⟨w1.heap.size, 1, none⟩ = some (.int .i64 x1) := Joins.cell_of_block k1' 1
  have d0 : w3.cell? ⟨w2.heap.size, 0, none⟩ = some (.int .i64 x0) := Joins.cell_of_block k2 0
  have d1 : w3.cell? ⟨w2.heap.size, 1, none⟩ = some (.int .i64 x1) := Joins.cell_of_block k2 1
  have l1 : w1.heap.size < w3.heap.size := by omega
  have l2 : w2.heap.size < w3.heap.size := by omega
  have hy3 : Below w3.heap.size w3 (w3.alloc (.cells #[.int .i64 8, .int .i64 12] 24)) := (Below.refl _ _).alloc (Nat.le_refl _) _
  have S1 := Lib.hid (((T12.out.below hy).below hy3).sl (by omega))
  have S2 := Lib.hid (((T2.out.below hy).below hy3).sl (by omega))
  have hB4 := hB3.trans (hy3.mono hB3.size)
  clear h ht3 k1 k1' k2
  go_wp2_with fail
  refine (same_any r _ _ _ _ _ S1.out S2.out).mono ?_
  rintro e w5 ⟨rfl, hb5⟩
  go_wp2_with fail
  go_ret
  exact ⟨rfl, hB4.trans (hb5.mono hB4.size)⟩
section
open Go.ChangeShapes Go.WideShapes Go.ChangeAt
set_option maxRecDepth 100000 in
theorem lifted_rleReads (os : Os) (started : os.Started) (H : Type) (enc : TypeId × Value → H)
    (walk : ∀ (W : World) (v0 : Value), Is_string W v0 → Calls Try.prog 3 #[v0] W fun e w' => e = .returned (.bool true) ∧ Below W.heap.size W w') :
    ReturnsInHanded {} Try.checked os 3 .any (Rows.rleReadsSpec.pre6 enc Try.prog Try.f3 Rows.rleReadsRow.domain false) (Rows.rleReadsSpec.post enc Try.prog Try.f3 false true false false) := by
  refine returnsInHanded_of_change_sized (C := Try.checked) own started (by kernel_rfl) Try.func3
    (ChangeSpec.witness6 (enc := enc) (C := Try.checked) false ⟨#[], #[.string ⟨#[]⟩], []⟩ 8 (by kernel_rfl) (by kernel_rfl) (by kernel_rfl) (by kernel_rfl)) ?_
  intro W base args ds gs before hval0 hW hcnd hsz0 _
  have hval : ∀ (j : Nat) t v, Try.f3.params[j]? = some t → args[j]? = some v → Value.okWide Try.prog W .any base t v := hval0
  have hW' := hW
  obtain ⟨p, q, hA0, hV, rfl, hfz, hnd⟩ := hW
  have hA : DataW.TrodAll enc Try.prog W 0 (fun _ => true) true Try.f3.params.toList args.toList ds p := hA0
  rw [Try.params3] at hA hval
  obtain ⟨rfl, rfl⟩ := trodVars_none hV
  have hB := hA
  obtain ⟨v0, vs0, d0, ds0, p0, q0, hargs, rfl, rfl, h0, r0⟩ := trodAll_cons hA
  obtain ⟨rfl, rfl, rfl⟩ := trodAll_nil r0
  obtain rfl : args = #[v0] := by cases args; simp_all
  have hsz : (DataW.weightsEach Try.prog [9] [d0]).all (· ≤ reachBytes) = true := hsz0
  have i0 := open_string (hval 0 9 v0 rfl rfl) h0 (weights_le hsz 0 rfl rfl)
  refine (walk W v0 i0).mono fun e W' ⟨he, bel⟩ => ?_
  subst he
  exact ⟨_, rfl, _, _, _, [], _, [], hW', trodAll_mk1 (shut_bool Try.underlying4 _), trodAll_below laidOut (by kernel_rfl) hB bel, rfl, bel.frame _, fun h => by cases h⟩

theorem over_rleReads (walk : ∀ (W : World) (v0 : Value), Is_string W v0 → Calls Try.prog 3 #[v0] W fun e w' => e = .returned (.bool true) ∧ Below W.heap.size W w') :
    Rows.rleReadsRow.holds Try.pinned (OpenSpec.ofChange Rows.rleReadsSpec) :=
  OpenClaim.holds_of_wide 3 Try.f3 rfl rfl rfl rfl rfl rfl rfl ⟨rfl, rfl, rfl, rfl, rfl⟩ rfl rfl rfl rfl rfl (by kernel_rfl) Try.func3 (by kernel_rfl)
    (of_decide_eq_true (by kernel_rfl)) (by unfold Func.isWrapper; first | (rw [if_pos (by decide +kernel)]; kernel_rfl) | (rw [if_neg (by decide +kernel)]; exact ⟨rfl, rfl⟩))
    (fun os started H enc _ => lifted_rleReads os started H enc walk)
end
theorem rleReads_proved : Rows.RleReadsSaid := over_rleReads fun W _ ⟨text, e2, ht⟩ => by
  subst e2
  have h := law_rleReads text.data.toList W (by simpa using ht)
  rw [txt_eta] at h
  exact h
end Go.Proofs.Ytffgpjkkgndkiaa
