/-
  For all texts (of the bulk that the statement's second form speaks of), frame.Wrap answers what the document's WrapText answers.
-/
import Derived.Test.YtghginiipknoeaaFrames
import Derived.Test.YtghginiipknoeaaRefFrames
import Derived.Test.YtghginiipknoeaaUpto
namespace Go.Proofs.Ytghginiipknoeaa
open Go.RowKit

set_option maxRecDepth 100000 in
theorem law_wraps (l : List UInt8) (w : World) (hl : l.length ≤ 1048576) :
    Calls Try.prog 12 #[.string (txt l)] w fun e w' => e = .returned (.bool true) ∧ Below w.heap.size w w' := by
  go_enter Try.func12, Try.ntmps12
  go_wp2_with fail
  refine (wrap_any l _ hl).mono ?_
  rintro e w1 ⟨rfl, hb1⟩
  go_wp2_with fail
  refine (refWrap_any l _ hl).mono ?_
  rintro e w2 ⟨rfl, hb2⟩
  go_wp2_with fail
  go_ret
  exact ⟨by simp, hb1.trans (hb2.mono hb1.size)⟩
section
open Go.ChangeShapes Go.WideShapes Go.ChangeAt
set_option maxRecDepth 100000 in
theorem lifted_frameWraps (os : Os) (started : os.Started) (H : Type) (enc : TypeId × Value → H) (F : Stop.Interp)
    (walk : ∀ (W : World) (v0 : Value), IsU_string W v0 → Calls Try.prog 12 #[v0] W fun e w' => e = .returned (.bool true) ∧ Below W.heap.size W w') :
    ReturnsInHanded {} Try.checked os 12 .any ((Rows.OpenSpec.upto Rows.frameWrapsSpec).pre6 enc Try.prog Try.f12 Rows.frameWrapsUptoRow.domain false) (((Rows.OpenSpec.upto Rows.frameWrapsSpec).at F).post enc Try.prog Try.f12 false true false false) := by
  refine returnsInHanded_of_cond_sized (C := Try.checked) (s := Rows.OpenSpec.upto Rows.frameWrapsSpec) (k := Rows.uptoSmall) rfl own started (by kernel_rfl) Try.func12
    (OpenSpec.witness (enc := enc) (C := Try.checked) (s := Rows.OpenSpec.upto Rows.frameWrapsSpec) (k := Rows.uptoSmall) rfl false ⟨#[], #[.string ⟨#[]⟩], []⟩ 8 (by kernel_rfl) (by kernel_rfl) (by kernel_rfl)
      (x := ([.lit (.string [])], [], [])) (by kernel_rfl) rfl (by kernel_rfl)) ?_
  intro W base args ds gs before hval0 hW hcnd hk hsz0 _
  have hval : ∀ (j : Nat) t v, Try.f12.params[j]? = some t → args[j]? = some v → Value.okWide Try.prog W .any base t v := hval0
  have hW' := hW
  obtain ⟨p, q, hA0, hV, rfl, hfz, hnd⟩ := hW
  have hA : DataW.TrodAll enc Try.prog W 0 (fun _ => true) true Try.f12.params.toList args.toList ds p := hA0
  rw [Try.params12] at hA hval
  obtain ⟨rfl, rfl⟩ := trodVars_none hV
  have hB := hA
  obtain ⟨v0, vs0, d0, ds0, p0, q0, hargs, rfl, rfl, h0, r0⟩ := trodAll_cons hA
  obtain ⟨rfl, rfl, rfl⟩ := trodAll_nil r0
  obtain rfl : args = #[v0] := by cases args; simp_all
  have hsz : (DataW.weightsEach Try.prog [9] [d0]).all (· ≤ reachBytes) = true := hsz0
  have hbk : Rows.uptoBulkAll [d0] ≤ 1048576 := of_decide_eq_true hk
  have i0 := openU_string (hval 0 9 v0 rfl rfl) h0 (weights_le hsz 0 rfl rfl) (Nat.le_trans (bulk_part (d := d0) (by simp)) hbk)
  refine (walk W v0 i0).mono fun e W' ⟨he, bel⟩ => ?_
  subst he
  exact ⟨_, rfl, _, _, _, [], _, [], hW', trodAll_mk1 (shut_bool Try.underlying4 _), trodAll_below laidOut (by kernel_rfl) hB bel, rfl, bel.frame _, fun h => by cases h⟩

theorem over_frameWraps (walk : ∀ (W : World) (v0 : Value), IsU_string W v0 → Calls Try.prog 12 #[v0] W fun e w' => e = .returned (.bool true) ∧ Below W.heap.size W w') :
    Rows.frameWrapsUptoRow.holds Try.pinned (Rows.OpenSpec.upto Rows.frameWrapsSpec) :=
  OpenClaim.holds_of_cond 12 Try.f12 rfl rfl rfl rfl rfl rfl rfl ⟨rfl, rfl, rfl, rfl, rfl⟩ rfl rfl rfl rfl rfl (by kernel_rfl) Try.func12 (by kernel_rfl)
    (of_decide_eq_true (by kernel_rfl)) (by unfold Func.isWrapper; first | (rw [if_pos (by decide +kernel)]; kernel_rfl) | (rw [if_neg (by decide +kernel)]; exact ⟨rfl, rfl⟩))
    (fun os started H enc _ F => lifted_frameWraps os started H enc F walk)
end
theorem frameWraps_proved : Rows.FrameWrapsUptoSaid := over_frameWraps fun W _ ⟨text, e2, ht⟩ => by
  subst e2
  have h := law_wraps text.data.toList W (by simpa using ht)
  rw [txt_eta] at h
  exact h
end Go.Proofs.Ytghginiipknoeaa
