/-
  For all tables, texts and rights, keys.Find answers what the document's FindKey answers; no condition.
-/
import Derived.Test.YtghginiipknoeaaFinds
namespace Go.Proofs.Ytghginiipknoeaa
open Go.RowKit Go.Shelf Go.Lib
def lix_ren : Go.Shelf.Ren := ⟨fun | 6 => 49 | n => n, fun | 22 => 26 | 23 => 33 | 25 => 79 | 3 => 3 | 0 => 0 | 4 => 4 | n => n, fun | n => n⟩
theorem lix : Go.Proofs.SlLaysH0.n6 Try.prog lix_ren := {
  mixed := by kernel_rfl
  f6 := ⟨Try.f49.name, by decide, Try.func49.trans (congrArg some (by kernel_rfl))⟩
  t0 := Try.underlying0
  a0 := Try.isAgg0
  z0 := Try.sizeOf0
  v0 := Try.zeroValue0
  t3 := Try.underlying3
  a3 := Try.isAgg3
  z3 := Try.sizeOf3
  v3 := Try.zeroValue3
  t4 := Try.underlying4
  a4 := Try.isAgg4
  z4 := Try.sizeOf4
  v4 := Try.zeroValue4
  t22 := Try.underlying26
  a22 := Try.isAgg26
  z22 := Try.sizeOf26
  v22 := Try.zeroValue26
  t25 := Try.underlying79
  a25 := Try.isAgg79
  z25 := Try.sizeOf79
  v25 := Try.zeroValue79 }


instance : Inhabited KeyD := ⟨⟨⟨#[]⟩, ⟨#[]⟩, 0⟩⟩

theorem sl_own_lift {w w' : World} {base : Nat} {e : TypeId} {k bytes n : Nat} {a : Option Addr} {cap : Nat} {fl : List Value} (h : w.ownsRow base e k (.slice a n cap) n fl) (hk : 0 < k) (hb : n * bytes ≤ 140737488351232) (hg : Below w.heap.size w w') : Sl w' k bytes a n cap fl := by
  obtain ⟨a', c', e1, hs⟩ := sl_of_own h hb
  simp only [Value.slice.injEq, true_and] at e1
  obtain ⟨rfl, rfl⟩ := e1
  exact hs.below hk hg

/-- The closure: 'k.Text == text', the text in a cell of Find's. -/
theorem pred_find (text : ByteArray) (B : Nat) (w : World) (hB : B < w.heap.size) (hcell : w.cell? ⟨B, 0, none⟩ = some (.string text)) :
    PredBelow Try.prog 50 #[.pointer (some ⟨B, 0, none⟩)] (fun x => .agg (encKey x).toArray) (fun x => x.text.toList == text.toList) w := fun W x hb => by
  have hc : W.cell? ⟨B, 0, none⟩ = some (.string text) := (hb.cell (p := ⟨B, 0, none⟩) hB).trans hcell
  have hBW : B < W.heap.size := Nat.lt_of_lt_of_le hB hb.size
  have hne : B ≠ W.heap.size := by omega
  show Calls Try.prog 50 #[.agg #[.string x.text, .string x.name, .int .i64 x.rights], .pointer (some ⟨B, 0, none⟩)] W _
  go_enter Try.func50, Try.ntmps50
  go_wp2
  all_goals (go_ret; exact ⟨rfl, hb.alloc hb.size _⟩)

theorem idx_spec {α : Type} (p : α → Bool) (d : α) : ∀ (zs : List α) (i : Nat), (Lib.idxByFrom (fun _ y => p y) d zs i = -1 ∧ ∀ (j : Nat) (z : α), zs[j]? = some z → p z = false) ∨
    ∃ (k : Nat) (z : α), zs[k]? = some z ∧ p z = true ∧ Lib.idxByFrom (fun _ y => p y) d zs i = ((i + k : Nat) : Int) ∧ ∀ (j : Nat) (z' : α), j < k → zs[j]? = some z' → p z' = false
  | [], i => .inl ⟨rfl, fun j z h => by simp at h⟩
  | y :: r, i => by
    cases hy : p y with
    | true => exact .inr ⟨0, y, rfl, hy, by simp [Lib.idxByFrom, hy], fun j z h => absurd h (Nat.not_lt_zero _)⟩
    | false =>
      rcases idx_spec p d r (i + 1) with ⟨h1, h2⟩ | ⟨k, z, h1, h2, h3, h4⟩
      · refine .inl ⟨by simp [Lib.idxByFrom, hy, h1], fun j z h => ?_⟩
        cases j with
        | zero => simp at h; subst h; exact hy
        | succ j => exact h2 j z (by simpa using h)
      · refine .inr ⟨k + 1, z, by simpa using h1, h2, by simp [Lib.idxByFrom, hy, h3]; omega, fun j z' hj h => ?_⟩
        cases j with
        | zero => simp at h; subst h; exact hy
        | succ j => exact h4 j z' (by omega) (by simpa using h)

/-- What IndexFunc says of a text: no key bears it, or the first that does. -/
def Placed (w : World) (text : ByteArray) (ks : List KeyD) (e : Ending) (w' : World) : Prop :=
  Below w.heap.size w w' ∧ ((e = .returned (.int .i64 (-1)) ∧ ∀ (j : Nat) (d : KeyD), ks[j]? = some d → (d.text.toList == text.toList) = false) ∨
    ∃ (k : Nat) (kd : KeyD), e = .returned (.int .i64 (k : Nat)) ∧ ks[k]? = some kd ∧ (kd.text.toList == text.toList) = true ∧ ∀ (j : Nat) (d : KeyD), j < k → ks[j]? = some d → (d.text.toList == text.toList) = false)

set_option maxHeartbeats 1000000 in
theorem index_empty (a : Option Addr) (c : Nat) (fv : Value) (w : World) :
    Calls Try.prog 49 #[.slice a 0 c, fv] w fun e w' => e = .returned (.int .i64 (-1)) ∧ w' = w := by
  go_enter Try.func49, Try.ntmps49
  go_wp2
  go_loopg [5, 8] 0 (fun _ _ s8 wr => s8 = .int .i64 0 ∧ wr = w)
  case atStart => exact ⟨rfl, rfl⟩
  case round =>
    obtain ⟨rfl, rfl⟩ := hrel
    go_wp2
    go_ret
    exact ⟨rfl, rfl⟩

theorem index_any (text : ByteArray) (ks : List KeyD) (a : Option Addr) (cap : Nat) (B : Nat) (w : World) (hs : Sl w 3 40 a ks.length cap (ks.flatMap encKey)) (hB : B < w.heap.size) (hcell : w.cell? ⟨B, 0, none⟩ = some (.string text)) :
    Calls Try.prog 49 #[.slice a ks.length cap, .func (.func 50) #[] #[.pointer (some ⟨B, 0, none⟩)]] w (Placed w text ks) := by
  have hn := hs.wide
  by_cases hz : ks.length = 0
  · have hk0 : ks = [] := List.eq_nil_of_length_eq_zero hz
    subst hk0
    refine (index_empty a cap _ w).mono ?_
    rintro e w' ⟨rfl, rfl⟩
    exact ⟨Below.refl _ _, .inl ⟨rfl, fun j d h => by simp at h⟩⟩
  · obtain ⟨b, o, rfl, hrow⟩ := hs.row (by omega)
    have hb := hs.lt (by omega) (by omega)
    have eg : ∀ args w, (callFunc 50 args).run Try.prog w = .ok (.enter 50 args) w := enters_of Try.func50 (by kernel_rfl) rfl
    refine (AnyQ.slices_IndexFunc lix 3 Try.isAgg33 Try.sizeOf33 encKey (fun _ => rfl) (fun x => x.text.toList == text.toList) 50 #[.pointer (some ⟨B, 0, none⟩)] eg b o ks.length cap ks w
      (pred_find text B w hB hcell) (Nat.le_refl _) (by omega) hb (fun j hj i v hi => ?_)).mono ?_
    · have hj2 : ks[j]? = some ks[j]! := by rw [List.getElem?_eq_getElem hj, List.getElem!_eq_getElem?_getD, List.getElem?_eq_getElem hj]; rfl
      have hi3 : i < 3 := by
        have := (List.getElem?_eq_some_iff.1 hi).1
        simpa [encKey] using this
      have := hrow _ _ ((flat_at (k := 3) (enc := encKey) (by omega) (fun _ => rfl) ks j i _ hj2 hi3).trans hi)
      rw [← Nat.add_assoc] at this
      exact this
    · rintro e w' ⟨rfl, hb'⟩
      refine ⟨hb', ?_⟩
      rw [List.take_length]
      rcases idx_spec (fun x : KeyD => x.text.toList == text.toList) default ks 0 with ⟨h1, h2⟩ | ⟨k, z, h1, h2, h3, h4⟩
      · exact .inl ⟨by rw [Lib.idxBy, h1], h2⟩
      · exact .inr ⟨k, z, by rw [Lib.idxBy, h3, Nat.zero_add], h1, h2, h4⟩
set_option maxRecDepth 100000 in
set_option maxHeartbeats 1000000 in
theorem find_any (s : Int) (text : ByteArray) (rights : Int) (ks : List KeyD) (a : Option Addr) (cap : Nat) (w : World) (hs : Sl w 3 40 a ks.length cap (ks.flatMap encKey)) :
    Calls Try.prog 30 #[.agg #[.int .i64 s, .slice a ks.length cap], .string text, .int .i64 rights] w (Found w text rights ks) := by
  have hn := hs.wide
  go_enter Try.func30, Try.ntmps30
  go_wp2_with fail
  have B0 : Below w.heap.size w ((w.alloc (.cells #[.int .i64 s, .slice a ks.length cap] 28)).alloc (.cells #[.string text] 9)) := ((Below.refl _ _).alloc (Nat.le_refl _) _).alloc (by simp) _
  refine (index_any text ks a cap (w.heap.size + 1) _ (hs.below (by omega) B0) (by simp) (by simp)).mono ?_
  rintro e w1 ⟨hb1, ⟨rfl, hno⟩ | ⟨k, kd, rfl, hkd, hm, hno⟩⟩
  · have B1 := B0.trans (hb1.mono B0.size)
    have HN := Lib.hid hno
    clear hno
    go_wp2_with fail
    refine bodyPost_ret (v := .tuple #[.string ⟨#[]⟩, .int .i64 6]) (by simp [results, Try.results30, go_sem]) rfl ⟨?_, ?_⟩
    · rw [findK_miss HN.out]
    · exact B1
  · have B1 := B0.trans (hb1.mono B0.size)
    have HN := Lib.hid hno
    have HM := Lib.hid hm
    have hk : k < ks.length := (List.getElem?_eq_some_iff.1 hkd).1
    obtain ⟨b, o, rfl, hrow⟩ := hs.row (by omega)
    have hb := hs.lt (by omega) (by omega)
    have e1 := hrow _ _ (flat_at (k := 3) (enc := encKey) (by omega) (fun _ => rfl) ks k 1 kd hkd (by omega))
    have e2 := hrow _ _ (flat_at (k := 3) (enc := encKey) (by omega) (fun _ => rfl) ks k 2 kd hkd (by omega))
    have g1 : w1.cell? ⟨b, o + k * 3 + 1, none⟩ = some (.string kd.name) := by rw [B1.cell hb]; exact e1
    have g2 : w1.cell? ⟨b, o + k * 3 + 2, none⟩ = some (.int .i64 kd.rights) := by rw [B1.cell hb]; exact e2
    have d1 : w1.cell? ⟨w.heap.size, 1, none⟩ = some (.slice (some ⟨b, o, none⟩) ks.length cap) := by rw [hb1.cell (by simp; omega)]; simp
    have i1 : (0 : Int) ≤ (k : Int) := by omega
    have i2 : (k : Int) < (ks.length : Int) := by omega
    have HKD := Lib.hid hkd
    clear hkd hm hno e1 e2 hrow
    by_cases hT : bits .and .i64 kd.rights rights = rights
    · have HA := Lib.hid hT
      go_wp2_with fail
      refine bodyPost_ret (v := .tuple #[.string kd.name, .int .i64 0]) (by simp [results, Try.results30, go_sem]) rfl ⟨?_, ?_⟩
      · rw [findK_hit HM.out HKD.out HN.out, rightsOf, if_pos HA.out]
      · exact B1
    · have HA := Lib.hid hT
      go_wp2_with fail
      refine bodyPost_ret (v := .tuple #[.string ⟨#[]⟩, .int .i64 10]) (by simp [results, Try.results30, go_sem]) rfl ⟨?_, ?_⟩
      · rw [findK_hit HM.out HKD.out HN.out, rightsOf, if_neg HA.out]
      · exact B1

theorem find_empty (w : World) : Calls Try.prog 30 #[.agg #[.int .i64 0, .slice none 0 0], .string ⟨#[33, 97]⟩, .int .i64 0] w fun e w' => e = .returned (.tuple #[.string ⟨#[]⟩, .int .i64 6]) ∧ Below w.heap.size w w' :=
  find_any 0 ⟨#[33, 97]⟩ 0 [] none 0 w ⟨rfl, Nat.le_refl _, by simp [maxLen], fun _ => rfl, by simp, fun h => by simp at h⟩

set_option maxRecDepth 100000 in
set_option maxHeartbeats 1000000 in
theorem law_find (s : Int) (text : ByteArray) (rights : Int) (ks : List KeyD) (a : Option Addr) (cap : Nat) (w : World) (hs : Sl w 3 40 a ks.length cap (ks.flatMap encKey)) (hg : ∀ k ∈ ks, GoodKey k) (hr : I64 rights) :
    Calls Try.prog 9 #[.agg #[.int .i64 s, .slice a ks.length cap], .string text, .int .i64 rights] w fun e w' => e = .returned (.bool true) ∧ Below w.heap.size w w' := by
  have hwide := hs.wide
  have HG := Lib.hid hg
  have HR := Lib.hid hr
  clear hg hr
  go_enter Try.func9, Try.ntmps9
  go_wp2_with fail
  refine (table_any s ks a cap _ (hs.below (by omega) ((Below.refl _ _).alloc (Nat.le_refl _) _))).mono ?_
  rintro e w1 ⟨v1, rfl, hb1, ho1⟩
  obtain ⟨a1, c1, rfl⟩ := own_form ho1
  have hB1 := ((Below.refl w.heap.size w).alloc (Nat.le_refl _) _).trans (hb1.mono (by simp))
  have t0 : w1.cell? ⟨w.heap.size, 0, none⟩ = some (.int .i64 s) := by rw [hb1.cell (by simp)]; simp
  have t1 : w1.cell? ⟨w.heap.size, 1, none⟩ = some (.slice a ks.length cap) := by rw [hb1.cell (by simp)]; simp
  have hz1 := hb1.size
  simp only [World.size_alloc] at hz1
  go_wp2_with fail
  obtain ⟨⟨nm, er⟩, hF⟩ : ∃ F, F = findK text rights ks := ⟨_, rfl⟩
  have fnd : ∀ {w e w'}, Found w text rights ks e w' → e = .returned (.tuple #[.string nm, .int .i64 er]) ∧ Below w.heap.size w w' := fun h => by unfold Found at h; rw [← hF] at h; exact h
  clear hF
  refine (find_any s text rights ks a1 c1 _ (sl_own_lift ho1 (by omega) hwide (Below.refl _ _))).mono ?_
  intro e w2 hfd
  obtain ⟨rfl, hb2⟩ := fnd hfd
  clear hfd
  have t0 : w2.cell? ⟨w.heap.size, 0, none⟩ = some (.int .i64 s) := by rw [hb2.cell (by simp; omega)]; exact t0
  have t1 : w2.cell? ⟨w.heap.size, 1, none⟩ = some (.slice a ks.length cap) := by rw [hb2.cell (by simp; omega)]; exact t1
  have hz2 := hb2.size
  have hlt2 : w.heap.size < w2.heap.size := by omega
  have hB2 := hB1.trans (hb2.mono hB1.size)
  go_wp2_with fail
  refine (refFind_any s text rights ks a cap _ (hs.below (by omega) hB2) HG.out HR.out).mono ?_
  intro e w3 hfd
  obtain ⟨rfl, hb3⟩ := fnd hfd
  clear hfd
  have hB3 := hB2.trans (hb3.mono hB2.size)
  go_wp2_with fail
  refine (find_empty _).mono ?_
  rintro e w4 ⟨rfl, hb4⟩
  have hB4 := hB3.trans (hb4.mono hB3.size)
  go_wp2_with fail
  go_ret
  exact ⟨rfl, hB4⟩
section
open Go.ChangeShapes Go.WideShapes Go.ChangeAt
set_option maxRecDepth 100000 in
theorem lifted_keysFind (os : Os) (started : os.Started) (H : Type) (enc : TypeId × Value → H)
    (walk : ∀ (W : World) (v0 : Value) (v1 : Value) (v2 : Value), Is_table W v0 → Is_string W v1 → Is_int W v2 → Calls Try.prog 9 #[v0, v1, v2] W fun e w' => e = .returned (.bool true) ∧ Below W.heap.size W w') :
    ReturnsInHanded {} Try.checked os 9 .any (Rows.keysFindSpec.pre6 enc Try.prog Try.f9 Rows.keysFindRow.domain false) (Rows.keysFindSpec.post enc Try.prog Try.f9 false true false false) := by
  refine returnsInHanded_of_change_sized (C := Try.checked) own started (by kernel_rfl) Try.func9
    (ChangeSpec.witness6 (enc := enc) (C := Try.checked) false ⟨#[], #[.agg #[.int .i64 0, .slice none 0 0], .string ⟨#[]⟩, .int .i64 0], []⟩ 8 (by kernel_rfl) (by kernel_rfl) (by kernel_rfl) (by kernel_rfl)) ?_
  intro W base args ds gs before hval0 hW hcnd hsz0 _
  have hval : ∀ (j : Nat) t v, Try.f9.params[j]? = some t → args[j]? = some v → Value.okWide Try.prog W .any base t v := hval0
  have hW' := hW
  obtain ⟨p, q, hA0, hV, rfl, hfz, hnd⟩ := hW
  have hA : DataW.TrodAll enc Try.prog W 0 (fun _ => true) true Try.f9.params.toList args.toList ds p := hA0
  rw [Try.params9] at hA hval
  obtain ⟨rfl, rfl⟩ := trodVars_none hV
  have hB := hA
  obtain ⟨v0, vs0, d0, ds0, p0, q0, hargs, rfl, rfl, h0, r0⟩ := trodAll_cons hA
  obtain ⟨v1, vs1, d1, ds1, p1, q1, rfl, rfl, rfl, h1, r1⟩ := trodAll_cons r0
  obtain ⟨v2, vs2, d2, ds2, p2, q2, rfl, rfl, rfl, h2, r2⟩ := trodAll_cons r1
  obtain ⟨rfl, rfl, rfl⟩ := trodAll_nil r2
  obtain rfl : args = #[v0, v1, v2] := by cases args; simp_all
  have hsz : (DataW.weightsEach Try.prog [28, 9, 3] [d0, d1, d2]).all (· ≤ reachBytes) = true := hsz0
  have i0 := open_table (hval 0 28 v0 rfl rfl) h0 (weights_le hsz 0 rfl rfl)
  have i1 := open_string (hval 1 9 v1 rfl rfl) h1 (weights_le hsz 1 rfl rfl)
  have i2 := open_int (hval 2 3 v2 rfl rfl) h2 (weights_le hsz 2 rfl rfl)
  refine (walk W v0 v1 v2 i0 i1 i2).mono fun e W' ⟨he, bel⟩ => ?_
  subst he
  exact ⟨_, rfl, _, _, _, [], _, [], hW', trodAll_mk1 (shut_bool Try.underlying4 _), trodAll_below laidOut (by kernel_rfl) hB bel, rfl, bel.frame _, fun h => by cases h⟩

theorem over_keysFind (walk : ∀ (W : World) (v0 : Value) (v1 : Value) (v2 : Value), Is_table W v0 → Is_string W v1 → Is_int W v2 → Calls Try.prog 9 #[v0, v1, v2] W fun e w' => e = .returned (.bool true) ∧ Below W.heap.size W w') :
    Rows.keysFindRow.holds Try.pinned (OpenSpec.ofChange Rows.keysFindSpec) :=
  OpenClaim.holds_of_wide 9 Try.f9 rfl rfl rfl rfl rfl rfl rfl ⟨rfl, rfl, rfl, rfl, rfl⟩ rfl rfl rfl rfl rfl (by kernel_rfl) Try.func9 (by kernel_rfl)
    (of_decide_eq_true (by kernel_rfl)) (by unfold Func.isWrapper; first | (rw [if_pos (by decide +kernel)]; kernel_rfl) | (rw [if_neg (by decide +kernel)]; exact ⟨rfl, rfl⟩))
    (fun os started H enc _ => lifted_keysFind os started H enc walk)
end
theorem keysFind_proved : Rows.KeysFindSaid := over_keysFind fun W _ _ _ ⟨s, kv, ks, e0, _, ⟨a, cap, e1, hs⟩, hg⟩ ⟨text, e2, _⟩ ⟨r, e3, hr⟩ => by
  subst e0; subst e1; subst e2; subst e3
  exact law_find s text r ks a cap W hs hg hr
end Go.Proofs.Ytghginiipknoeaa
