/-
  For all tables and names, keys.Revoke answers what the document's Revoke answers: the table without them, and how many; no condition.
-/
import Derived.Test.YtghginiipknoeaaTables
namespace Go.Proofs.Ytghginiipknoeaa
open Go.RowKit

theorem sl_own_grow {w w' : World} {base : Nat} {e : TypeId} {k bytes n : Nat} {a : Option Addr} {cap : Nat} {fl : List Value} (h : w.ownsRow base e k (.slice a n cap) n fl) (hk : 0 < k) (hb : n * bytes ≤ 140737488351232) (hg : Below w.heap.size w w') : Sl w' k bytes a n cap fl := by
  obtain ⟨a', c', e1, hs⟩ := sl_of_own h hb
  simp only [Value.slice.injEq, true_and] at e1
  obtain ⟨rfl, rfl⟩ := e1
  exact hs.below hk hg

/-- Revoke of the one key that it is asked of. -/
def Gone (w : World) (e : Ending) (w' : World) : Prop := ∃ a c, e = .returned (.tuple #[.agg #[.int .i64 0, .slice a 0 c], .int .i64 1]) ∧ Below w.heap.size w w'
theorem revoke_one (b : Nat) (w : World) (hb : w.heap[b]? = some (.cells #[.string ⟨#[]⟩, .string ⟨#[97]⟩, .int .i64 0] 33 (0, 0))) :
    Calls Try.prog 17 #[.agg #[.int .i64 0, .slice (some ⟨b, 0, none⟩) 1 1], .string ⟨#[97]⟩] w (Gone w) := by
  refine (revoke_any 0 ⟨#[97]⟩ [⟨⟨#[]⟩, ⟨#[97]⟩, 0⟩] (some ⟨b, 0, none⟩) 1 w ⟨rfl, Nat.le_refl _, by simp [maxLen], (fun h => by cases h), by simp, fun _ => ⟨b, 0, rfl, fun j u hu => ?_⟩⟩).mono ?_
  · rw [Nat.zero_add, Joins.cell_of_block hb]; simpa [encKey] using hu
  · rintro e w' ⟨v', rfl, hb, ho⟩
    have e1 : (keepK ⟨#[97]⟩ [⟨⟨#[]⟩, ⟨#[97]⟩, 0⟩]).length = 0 := by simp [keepK]
    obtain ⟨a, c, rfl⟩ := own_form ho
    rw [e1]
    exact ⟨a, c, by simp, hb⟩

set_option maxRecDepth 100000 in
set_option maxHeartbeats 1000000 in
theorem law_revoke (s : Int) (name : ByteArray) (ks : List KeyD) (a : Option Addr) (cap : Nat) (w : World) (hs : Sl w 3 40 a ks.length cap (ks.flatMap encKey)) :
    Calls Try.prog 5 #[.agg #[.int .i64 s, .slice a ks.length cap], .string name] w fun e w' => e = .returned (.bool true) ∧ Below w.heap.size w w' := by
  have hwide := hs.wide
  have hkl := keep_le name ks
  go_enter Try.func5, Try.ntmps5
  go_wp2_with fail
  refine (table_any s ks a cap _ (hs.below (by omega) ((Below.refl _ _).alloc (Nat.le_refl _) _))).mono ?_
  rintro e w1 ⟨v1, rfl, hb1, ho1⟩
  obtain ⟨a1, c1, rfl⟩ := own_form ho1
  have hB1 := ((Below.refl w.heap.size w).alloc (Nat.le_refl _) _).trans (hb1.mono (by simp))
  have t0 : w1.cell? ⟨w.heap.size, 0, none⟩ = some (.int .i64 s) := by rw [hb1.cell (by simp)]; simp
  have t1 : w1.cell? ⟨w.heap.size, 1, none⟩ = some (.slice a ks.length cap) := by rw [hb1.cell (by simp)]; simp
  have hz1 := hb1.size
  simp only [World.size_alloc] at hz1
  go_wp2_with fail
  refine (revoke_any s name ks a1 c1 _ (sl_own_grow ho1 (by omega) hwide (Below.refl _ _))).mono ?_
  rintro e w2 ⟨v2, rfl, hb2, ho2⟩
  obtain ⟨a2, c2, rfl⟩ := own_form ho2
  have t0 : w2.cell? ⟨w.heap.size, 0, none⟩ = some (.int .i64 s) := by rw [hb2.cell (by simp; omega)]; exact t0
  have t1 : w2.cell? ⟨w.heap.size, 1, none⟩ = some (.slice a ks.length cap) := by rw [hb2.cell (by simp; omega)]; exact t1
  have hz2 := hb2.size
  have hlt2 : w.heap.size < w2.heap.size := by omega
  have hB2 := hB1.trans (hb2.mono hB1.size)
  go_wp2_with fail
  refine (refRevoke_any s name ks a cap _ (hs.below (by omega) (hB2.alloc hB2.size _))).mono ?_
  rintro e w3 ⟨v3, rfl, hb3, ho3⟩
  obtain ⟨a3, c3, rfl⟩ := own_form ho3
  have hz3 := hb3.size
  simp only [World.size_alloc] at hz3
  have hB3 := (hB2.alloc hB2.size _).trans (hb3.mono (by simp; omega))
  go_wp2_with fail
  refine (revoke_one (w3.heap.size + 1) _ (blk_last _ _ (by simp))).mono ?_
  rintro e w4 ⟨a4, c4, rfl, hb4⟩
  have hz4 := hb4.size
  simp only [World.size_alloc] at hz4
  have b34 : Below w3.heap.size w3 w4 := (((Below.refl _ _).alloc (Nat.le_refl _) _).alloc (by simp) _).trans (hb4.mono (by simp; omega))
  have b23 : Below w2.heap.size w2 w3 := ((Below.refl _ _).alloc (Nat.le_refl _) _).trans (hb3.mono (by simp))
  have k2 := blk_last w2 (.cells #[.int .i64 s, .slice a2 (keepK name ks).length c2] 28) rfl
  have k2' : w4.heap[w2.heap.size]? = some (.cells #[.int .i64 s, .slice a2 (keepK name ks).length c2] 28 (0, 0)) := by
    rw [b34.block _ (by omega), hb3.block _ (by simp)]; exact k2
  have k3' : w4.heap[w3.heap.size]? = some (.cells #[.int .i64 s, .slice a3 (keepK name ks).length c3] 28 (0, 0)) := by
    rw [hb4.block _ (by simp; omega)]; exact blk_alloc (blk_last w3 _ rfl) _
  have x0 : w4.cell? ⟨w2.heap.size, 0, none⟩ = some (.int .i64 s) := by rw [Joins.cell_of_block k2' 0]; rfl
  have x1 : w4.cell? ⟨w2.heap.size, 1, none⟩ = some (.slice a2 (keepK name ks).length c2) := by rw [Joins.cell_of_block k2' 1]; rfl
  have y0 : w4.cell? ⟨w3.heap.size, 0, none⟩ = some (.int .i64 s) := by rw [Joins.cell_of_block k3' 0]; rfl
  have y1 : w4.cell? ⟨w3.heap.size, 1, none⟩ = some (.slice a3 (keepK name ks).length c3) := by rw [Joins.cell_of_block k3' 1]; rfl
  have hl2 : w2.heap.size < w4.heap.size := by omega
  have hl3 : w3.heap.size < w4.heap.size := by omega
  have hB4 : Below w.heap.size w w4 := hB3.trans (b34.mono (by omega))
  have s2 := sl_own_grow (bytes := 40) ho2 (by omega) (by omega) (b23.trans (b34.mono (by omega)))
  have s3 := sl_own_grow (bytes := 40) ho3 (by omega) (by omega) b34
  go_wp2_with fail
  have bW := fun o => (Below.refl w4.heap.size w4).alloc (Nat.le_refl _) o
  refine (sameTable_any _ (keepK name ks) _ _ _ _ _ (s2.below (by omega) (bW _)) (s3.below (by omega) (bW _))).mono ?_
  rintro e w5 ⟨rfl, hb5⟩
  go_wp2
  go_ret
  exact ⟨rfl, hB4.trans ((bW _).trans (hb5.mono (by simp)) |>.mono (by omega))⟩
section
open Go.ChangeShapes Go.WideShapes Go.ChangeAt
set_option maxRecDepth 100000 in
theorem lifted_keysRevoke (os : Os) (started : os.Started) (H : Type) (enc : TypeId × Value → H)
    (walk : ∀ (W : World) (v0 : Value) (v1 : Value), Is_table W v0 → Is_string W v1 → Calls Try.prog 5 #[v0, v1] W fun e w' => e = .returned (.bool true) ∧ Below W.heap.size W w') :
    ReturnsInHanded {} Try.checked os 5 .any (Rows.keysRevokeSpec.pre6 enc Try.prog Try.f5 Rows.keysRevokeRow.domain false) (Rows.keysRevokeSpec.post enc Try.prog Try.f5 false true false false) := by
  refine returnsInHanded_of_change_sized (C := Try.checked) own started (by kernel_rfl) Try.func5
    (ChangeSpec.witness6 (enc := enc) (C := Try.checked) false ⟨#[], #[.agg #[.int .i64 0, .slice none 0 0], .string ⟨#[]⟩], []⟩ 8 (by kernel_rfl) (by kernel_rfl) (by kernel_rfl) (by kernel_rfl)) ?_
  intro W base args ds gs before hval0 hW hcnd hsz0 _
  have hval : ∀ (j : Nat) t v, Try.f5.params[j]? = some t → args[j]? = some v → Value.okWide Try.prog W .any base t v := hval0
  have hW' := hW
  obtain ⟨p, q, hA0, hV, rfl, hfz, hnd⟩ := hW
  have hA : DataW.TrodAll enc Try.prog W 0 (fun _ => true) true Try.f5.params.toList args.toList ds p := hA0
  rw [Try.params5] at hA hval
  obtain ⟨rfl, rfl⟩ := trodVars_none hV
  have hB := hA
  obtain ⟨v0, vs0, d0, ds0, p0, q0, hargs, rfl, rfl, h0, r0⟩ := trodAll_cons hA
  obtain ⟨v1, vs1, d1, ds1, p1, q1, rfl, rfl, rfl, h1, r1⟩ := trodAll_cons r0
  obtain ⟨rfl, rfl, rfl⟩ := trodAll_nil r1
  obtain rfl : args = #[v0, v1] := by cases args; simp_all
  have hsz : (DataW.weightsEach Try.prog [28, 9] [d0, d1]).all (· ≤ reachBytes) = true := hsz0
  have i0 := open_table (hval 0 28 v0 rfl rfl) h0 (weights_le hsz 0 rfl rfl)
  have i1 := open_string (hval 1 9 v1 rfl rfl) h1 (weights_le hsz 1 rfl rfl)
  refine (walk W v0 v1 i0 i1).mono fun e W' ⟨he, bel⟩ => ?_
  subst he
  exact ⟨_, rfl, _, _, _, [], _, [], hW', trodAll_mk1 (shut_bool Try.underlying4 _), trodAll_below laidOut (by kernel_rfl) hB bel, rfl, bel.frame _, fun h => by cases h⟩

theorem over_keysRevoke (walk : ∀ (W : World) (v0 : Value) (v1 : Value), Is_table W v0 → Is_string W v1 → Calls Try.prog 5 #[v0, v1] W fun e w' => e = .returned (.bool true) ∧ Below W.heap.size W w') :
    Rows.keysRevokeRow.holds Try.pinned (OpenSpec.ofChange Rows.keysRevokeSpec) :=
  OpenClaim.holds_of_wide 5 Try.f5 rfl rfl rfl rfl rfl rfl rfl ⟨rfl, rfl, rfl, rfl, rfl⟩ rfl rfl rfl rfl rfl (by kernel_rfl) Try.func5 (by kernel_rfl)
    (of_decide_eq_true (by kernel_rfl)) (by unfold Func.isWrapper; first | (rw [if_pos (by decide +kernel)]; kernel_rfl) | (rw [if_neg (by decide +kernel)]; exact ⟨rfl, rfl⟩))
    (fun os started H enc _ => lifted_keysRevoke os started H enc walk)
end
theorem keysRevoke_proved : Rows.KeysRevokeSaid := over_keysRevoke fun W _ _ ⟨s, kv, ks, e0, _, ⟨a, cap, e1, hs⟩, _⟩ ⟨name, e2, _⟩ => by
  subst e0; subst e1; subst e2
  exact law_revoke s name ks a cap W hs
end Go.Proofs.Ytghginiipknoeaa
