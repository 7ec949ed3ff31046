/-
  For all texts, rule.Read answers what the document's ReadRule answers; no condition.
-/
import Derived.Test.YtghginiipknoeaaRefReads
namespace Go.Proofs.Ytghginiipknoeaa
open Go.RowKit

theorem read_one (w : World) : Calls Try.prog 36 #[.string ⟨#[66, 51, 47, 83, 50, 51]⟩] w (ReadAs w ((8, 12), 0)) := by
  have h := read_any [66, 51, 47, 83, 50, 51] w (by simp)
  have e : readF [66, 51, 47, 83, 50, 51] = ((8, 12), 0) := by decide +kernel
  rw [e] at h
  exact h

set_option maxRecDepth 100000 in
set_option maxHeartbeats 1000000 in
theorem law_reads (l : List UInt8) (w : World) (hl : l.length ≤ 140737488351232) :
    Calls Try.prog 11 #[.string (txt l)] w fun e w' => e = .returned (.bool true) ∧ Below w.heap.size w w' := by
  obtain ⟨⟨⟨x0, x1⟩, er⟩, hF⟩ : ∃ F, F = readF l := ⟨_, rfl⟩
  have rd : ∀ {w e w'}, ReadAs w (readF l) e w' → e = .returned (.tuple #[.agg #[.int .i64 x0, .int .i64 x1], .int .i64 er]) ∧ Below w.heap.size w w' := fun h => by rw [← hF] at h; exact h
  clear hF
  go_enter Try.func11, Try.ntmps11
  go_wp2_with fail
  refine (read_any l _ hl).mono ?_
  intro e w1 h
  obtain ⟨rfl, hb1⟩ := rd h
  clear h
  go_wp2_with fail
  refine (refRead_any l _ hl).mono ?_
  intro e w2 h
  obtain ⟨rfl, hb2⟩ := rd h
  clear h
  go_wp2_with fail
  have hz2 := hb2.size
  simp only [World.size_alloc] at hz2
  have hB2 : Below w.heap.size w w2 := (hb1.alloc hb1.size _).trans (hb2.mono (by simp; have := hb1.size; omega))
  have k1 : w2.heap[w1.heap.size]? = some (.cells #[.int .i64 x0, .int .i64 x1] 24 (0, 0)) := by
    rw [hb2.block _ (by simp)]; exact blk_last w1 _ rfl
  refine (read_one _).mono ?_
  rintro e w3 ⟨rfl, hb3⟩
  have hz3 := hb3.size
  simp only [World.size_alloc] at hz3
  have hB3 : Below w.heap.size w w3 := (hB2.alloc hB2.size _).trans (hb3.mono (by simp; have := hB2.size; omega))
  have k1' : w3.heap[w1.heap.size]? = some (.cells #[.int .i64 x0, .int .i64 x1] 24 (0, 0)) := by
    rw [hb3.block _ (by simp; omega)]; exact blk_alloc k1 _
  have k2 : w3.heap[w2.heap.size]? = some (.cells #[.int .i64 x0, .int .i64 x1] 24 (0, 0)) := by
    rw [hb3.block _ (by simp)]; exact blk_last w2 _ rfl
  have c0 : w3.cell? ⟨w1.heap.size, 0, none⟩ = some (.int .i64 x0) := Joins.cell_of_block k1' 0
  have c1 : w3.cell? ⟨w1.heap.size, 1, none⟩ = some (.int .i64 x1) := Joins.cell_of_block k1' 1
  have d0 : w3.cell? ⟨w2.heap.size, 0, none⟩ = some (.int .i64 x0) := Joins.cell_of_block k2 0
  have d1 : w3.cell? ⟨w2.heap.size, 1, none⟩ = some (.int .i64 x1) := Joins.cell_of_block k2 1
  have l1 : w1.heap.size < w3.heap.size := by omega
  have l2 : w2.heap.size < w3.heap.size := by omega
  go_wp2_with fail
  go_ret
  exact ⟨rfl, hB3.alloc hB3.size _⟩
section
open Go.ChangeShapes Go.WideShapes Go.ChangeAt
set_option maxRecDepth 100000 in
theorem lifted_ruleReads (os : Os) (started : os.Started) (H : Type) (enc : TypeId × Value → H)
    (walk : ∀ (W : World) (v0 : Value), Is_string W v0 → Calls Try.prog 11 #[v0] W fun e w' => e = .returned (.bool true) ∧ Below W.heap.size W w') :
    ReturnsInHanded {} Try.checked os 11 .any (Rows.ruleReadsSpec.pre6 enc Try.prog Try.f11 Rows.ruleReadsRow.domain false) (Rows.ruleReadsSpec.post enc Try.prog Try.f11 false true false false) := by
  refine returnsInHanded_of_change_sized (C := Try.checked) own started (by kernel_rfl) Try.func11
    (ChangeSpec.witness6 (enc := enc) (C := Try.checked) false ⟨#[], #[.string ⟨#[]⟩], []⟩ 8 (by kernel_rfl) (by kernel_rfl) (by kernel_rfl) (by kernel_rfl)) ?_
  intro W base args ds gs before hval0 hW hcnd hsz0 _
  have hval : ∀ (j : Nat) t v, Try.f11.params[j]? = some t → args[j]? = some v → Value.okWide Try.prog W .any base t v := hval0
  have hW' := hW
  obtain ⟨p, q, hA0, hV, rfl, hfz, hnd⟩ := hW
  have hA : DataW.TrodAll enc Try.prog W 0 (fun _ => true) true Try.f11.params.toList args.toList ds p := hA0
  rw [Try.params11] at hA hval
  obtain ⟨rfl, rfl⟩ := trodVars_none hV
  have hB := hA
  obtain ⟨v0, vs0, d0, ds0, p0, q0, hargs, rfl, rfl, h0, r0⟩ := trodAll_cons hA
  obtain ⟨rfl, rfl, rfl⟩ := trodAll_nil r0
  obtain rfl : args = #[v0] := by cases args; simp_all
  have hsz : (DataW.weightsEach Try.prog [9] [d0]).all (· ≤ reachBytes) = true := hsz0
  have i0 := open_string (hval 0 9 v0 rfl rfl) h0 (weights_le hsz 0 rfl rfl)
  refine (walk W v0 i0).mono fun e W' ⟨he, bel⟩ => ?_
  subst he
  exact ⟨_, rfl, _, _, _, [], _, [], hW', trodAll_mk1 (shut_bool Try.underlying4 _), trodAll_below laidOut (by kernel_rfl) hB bel, rfl, bel.frame _, fun h => by cases h⟩

theorem over_ruleReads (walk : ∀ (W : World) (v0 : Value), Is_string W v0 → Calls Try.prog 11 #[v0] W fun e w' => e = .returned (.bool true) ∧ Below W.heap.size W w') :
    Rows.ruleReadsRow.holds Try.pinned (OpenSpec.ofChange Rows.ruleReadsSpec) :=
  OpenClaim.holds_of_wide 11 Try.f11 rfl rfl rfl rfl rfl rfl rfl ⟨rfl, rfl, rfl, rfl, rfl⟩ rfl rfl rfl rfl rfl (by kernel_rfl) Try.func11 (by kernel_rfl)
    (of_decide_eq_true (by kernel_rfl)) (by unfold Func.isWrapper; first | (rw [if_pos (by decide +kernel)]; kernel_rfl) | (rw [if_neg (by decide +kernel)]; exact ⟨rfl, rfl⟩))
    (fun os started H enc _ => lifted_ruleReads os started H enc walk)
end
theorem ruleReads_proved : Rows.RuleReadsSaid := over_ruleReads fun W _ ⟨text, e2, ht⟩ => by
  subst e2
  have h := law_reads text.data.toList W (by simpa using ht)
  rw [txt_eta] at h
  exact h
end Go.Proofs.Ytghginiipknoeaa
