/-
  For all that was kept and has come (of the bulk that the statement's second form speaks of), frame.Cut answers what the document's CutLines answers. Condition: the listed package-level variables hold what the program's text lays (the card ties them), and what the call reads is of the bulk that the second form names.
-/
import Derived.Test.YtffgpjkkgndkiaaDoorCutRef
import Derived.Test.YtffgpjkkgndkiaaDoorCard
import Derived.Test.YtffgpjkkgndkiaaDoorUpto
namespace Go.Proofs.YtffgpjkkgndkiaaDoor
set_option maxRecDepth 100000
open Go.RowKit

theorem cutted_of {w w' : World} {K C : List UInt8} {e : Ending} {ts : List (List UInt8)} {Y : List UInt8} (hr : (ts, Y) = cutR C K) (h : Cutted w K C e w') :
    ∃ a c, e = .returned (.tuple #[.slice a ts.length c, .string (txt Y)]) ∧ Below w.heap.size w w' ∧ TextsOf w.heap.size w' (.slice a ts.length c) ts := by
  obtain ⟨v, he, hb, ht⟩ := h
  rw [← hr] at he ht
  obtain ⟨a, c, rfl⟩ := ht.form
  exact ⟨a, c, he, hb, ht⟩
theorem cutR_ab : cutR [98, 10] [97] = ([[97, 98]], []) := by rfl
set_option maxHeartbeats 2000000 in
theorem law_cuts (K1 C : List UInt8) (w : World) (hK1 : K1.length ≤ 1048576) (hC : C.length ≤ 1048576) :
    Calls Tryd.prog 4 #[.string (txt K1), .string (txt C)] w fun e w' => e = .returned (.bool true) ∧ Below w.heap.size w w' := by
  obtain ⟨S, hS⟩ : ∃ S, S = txt C := ⟨_, rfl⟩
  have hu1 := fun K W h1 h2 => cut_any K C W hC h1 h2
  have hu2 := fun K W h1 => refCut_any K C W hC h1
  have hw4 : ∀ V : World, Calls Tryd.prog 11 #[.string ⟨#[97]⟩, .string ⟨#[98, 10]⟩] V (Cutted V [97] [98, 10]) := fun V =>
    cut_any [97] [98, 10] V (by simp) (by simp) (by simp)
  rw [← hS] at hu1 hu2 ⊢
  have H1 := Lib.hid hu1
  have H2 := Lib.hid hu2
  have H4 := Lib.hid hw4
  clear hu1 hu2 hS hw4
  go_enter Tryd.func4, Tryd.ntmps4
  go_wp2_with fail
  go_loopw [0, 5] (fun kept i wr => ∃ (j : Nat) (K : List UInt8), i = .int .i64 j ∧ kept = .string (txt K) ∧ K.length ≤ 1048576 ∧ j ≤ 6002 ∧ (j = 6002 → K.length ≤ 6001) ∧ Aside (10 ∉ K.take j) ∧ wr = w) (fun _ i _ => 6003 - (intOf i).toNat)
  case atStart => exact ⟨0, K1, rfl, rfl, hK1, Nat.zero_le _, by omega, by show ¬ _; simp, rfl⟩
  case round =>
    obtain ⟨j, K, rfl, rfl, hKl, hj, hj2, HT, rfl⟩ := hrel
    obtain ⟨n, hN⟩ : ∃ n, n = K.length := ⟨_, rfl⟩
    obtain ⟨T, hT⟩ : ∃ T, T = txt K := ⟨_, rfl⟩
    have hts : T.size = n := by rw [hT, hN, txt_size]
    rw [← hN] at hKl hj2
    rw [← hT]
    have HTX := Lib.hid hT
    have HN := Lib.hid hN
    clear hT hN
    by_cases hlt : j < n
    · have hj1 : j ≤ 6001 := by omega
      obtain ⟨c, hc⟩ : ∃ c, K[j]? = some c := ⟨K[j]'(by have := HN.out; omega), by simp⟩
      have hi1 : j < T.size := by omega
      have g0 : T[j].toNat = c.toNat := by
        have h := HTX.out; subst h
        have : (txt K)[j] = c := (List.getElem?_eq_some_iff.1 hc).2
        rw [this]
      obtain ⟨x, hx⟩ : ∃ x, x = c.toNat := ⟨_, rfl⟩
      rw [← hx] at g0
      have hx256 : x < 256 := by rw [hx]; exact c.toNat_lt
      have htk : K.take (j + 1) = K.take j ++ [c] := by rw [List.take_add_one, hc]; rfl
      have HX := Lib.hid hx
      have HTK := Lib.hid htk
      have hex : T.extract 0 j = txt (K.take j) := by rw [HTX.out, extract_list, List.drop_zero]
      have HEX := Lib.hid hex
      clear hx hc htk hex hj2
      have done : Aside (∃ (j' : Nat) (K' : List UInt8), Value.int .i64 ((j : Int) + 1) = .int .i64 j' ∧ Value.string (T.extract 0 j) = .string (txt K') ∧ K'.length ≤ 1048576 ∧ j' ≤ 6002 ∧ (j' = 6002 → K'.length ≤ 6001) ∧ Aside (10 ∉ K'.take j') ∧ True) := by
        refine ⟨j + 1, K.take j, by go_num, by rw [HEX.out], by rw [List.length_take]; omega, by omega, fun _ => by rw [List.length_take]; omega, ?_, trivial⟩
        show ¬ _
        rw [List.take_of_length_le (by rw [List.length_take]; omega)]
        exact HT.out
      rcases Decidable.em (x = 10) with rfl | h10
      · go_wp2_with fail
        exact ⟨done.out, by simp [intOf]; omega⟩
      · have hb : ((x : Int) == 10) = false := by simp; omega
        by_cases hlong : 6000 < j
        · have hl2 : (6000 : Int) < (j : Int) := by omega
          have hl3 : decide ((6000 : Int) < (j : Int)) = true := by simp; omega
          go_wp2_with fail
          exact ⟨done.out, by simp [intOf]; omega⟩
        · have hl2 : (j : Int) ≤ 6000 := by omega
          have hl3 : decide ((6000 : Int) < (j : Int)) = false := by simp; omega
          clear done
          go_wp2_with fail
          refine ⟨⟨j + 1, K, by go_num, by rw [HTX.out], by rw [← HN.out]; omega, by omega, by omega, ?_, trivial⟩, by simp [intOf]; omega⟩
          show ¬ _
          rw [HTK.out]
          intro h
          rcases List.mem_append.1 h with h | h
          · exact HT.out h
          · rw [List.mem_singleton] at h
            exact h10 (by rw [HX.out, ← h]; rfl)
    · have hn6 : n ≤ 6001 := by omega
      have hno : 10 ∉ K := by
        have := HT.out
        rwa [List.take_of_length_le (by rw [← HN.out]; omega)] at this
      have hk6 : K.length ≤ 6001 := by rw [← HN.out]; exact hn6
      have h1 := fun W => H1.out K W hk6 hno
      have h2 := fun W => H2.out K W hk6
      rw [← HTX.out] at h1 h2
      have G1 := Lib.hid h1
      have G2 := Lib.hid h2
      obtain ⟨⟨ts, Y⟩, hR⟩ : ∃ R, R = cutR C K := ⟨_, rfl⟩
      have hcn : ts.length ≤ 1048576 := by have := cutR_count C K; rw [← hR] at this; exact Nat.le_trans this hC
      have HR := Lib.hid hR
      clear hR h1 h2 hk6 hno hj2
      go_wp2_with fail
      refine (G1.out _).mono ?_
      intro e w2 h2
      obtain ⟨a2, c2, rfl, hb2, ht2⟩ := cutted_of HR.out h2
      have T2 := Lib.hid ht2
      clear h2 ht2
      go_wp2_with fail
      refine (G2.out _).mono ?_
      intro e w3 h3
      obtain ⟨a3, c3, rfl, hb3, ht3⟩ := cutted_of HR.out h3
      have hB3 := hb2.trans (hb3.mono hb2.size)
      have T3 := Lib.hid ht3
      clear h3 ht3
      go_wp2_with fail
      refine (H4.out _).mono ?_
      intro e w5 h5
      obtain ⟨a5, c5, rfl, hb5, ht5⟩ := cutted_of (ts := [[97, 98]]) (Y := []) cutR_ab.symm h5
      have hB5 := hB3.trans (hb5.mono hB3.size)
      have S2 := Lib.hid (((T2.out.below hb3).below hb5).sl (by omega))
      have S3 := Lib.hid ((T3.out.below hb5).sl (by omega))
      have hz := hB5.size
      clear h5 ht5
      obtain ⟨U, hU⟩ : ∃ U, U = txt Y := ⟨_, rfl⟩
      rw [← hU]
      clear hU
      go_wp2_with fail
      refine (sameTexts_any ts _ _ _ _ _ S2.out S3.out).mono ?_
      rintro e w6 ⟨rfl, hb6⟩
      go_wp2_with fail
      refine bodyPost_ret (v := .bool true) (by simp [results, Tryd.results4, go_sem]) rfl ⟨by simp, hB5.trans (hb6.mono hz)⟩
section
open Go.ChangeShapes Go.WideShapes Go.ChangeAt
noncomputable def laidWorld_frameCuts (os : Os) : World := { World.holding Tryd.prog os ⟨#[], #[], []⟩ with heap := (((World.holding Tryd.prog os ⟨#[], #[], []⟩).heap).modify 3 (laidIn (tabV Rows.laid_unicode_utf8_acceptRanges))).modify 2 (laidIn (tabV Rows.laid_unicode_utf8_first)) }
set_option maxRecDepth 100000 in
theorem laidMet_frameCuts (os : Os) : laidMet Tryd.prog Rows.frameCutsUptoRow.laid ((laidWorld_frameCuts os).forCall (fun _ _ => 0) ⟨#[], #[.string ⟨#[]⟩, .string ⟨#[]⟩], []⟩).memory := laidMet_of_run' 8 (by kernel_rfl) (by kernel_rfl)
set_option maxRecDepth 100000 in
theorem reads_frameCuts (os : Os) {H : Type} (enc : TypeId × Value → H) : ∃ places, DataW.whole enc Tryd.prog ((laidWorld_frameCuts os).forCall (fun _ _ => 0) ⟨#[], #[.string ⟨#[]⟩, .string ⟨#[]⟩], []⟩).memory Tryd.f4.params.toList Rows.frameCutsSpec.vars false #[.string ⟨#[]⟩, .string ⟨#[]⟩].toList 8 = some ([.lit (.string []), .lit (.string [])], [], places) := ⟨[], by kernel_rfl⟩
set_option maxRecDepth 100000 in
theorem lifted_frameCuts (os : Os) (started : os.Started) (H : Type) (enc : TypeId × Value → H) (F : Stop.Interp) (walk : ∀ (W : World) (v0 : Value) (v1 : Value), laidMetH Tryd.prog Rows.frameCutsUptoRow.laid W → IsU_string W v0 → IsU_string W v1 → Calls Tryd.prog 4 #[v0, v1] W fun e w' => e = .returned (.bool true) ∧ Below W.heap.size W w') :
    ReturnsInHanded {} Tryd.checked os 4 .any ((Rows.OpenSpec.upto Rows.frameCutsSpec).preRow enc Tryd.prog Tryd.f4 Rows.frameCutsUptoRow.domain false Rows.frameCutsUptoRow.laid) (((Rows.OpenSpec.upto Rows.frameCutsSpec).at F).post enc Tryd.prog Tryd.f4 false true false false) := by
  obtain ⟨places, hx⟩ := reads_frameCuts os enc
  refine returnsInHanded_of_row (C := Tryd.checked) (s := (Rows.OpenSpec.upto Rows.frameCutsSpec)) own started (by kernel_rfl) Tryd.func4
    (witness_row_at (enc := enc) (C := Tryd.checked) false (laidWorld_frameCuts os) #[.string ⟨#[]⟩, .string ⟨#[]⟩] rfl (by kernel_rfl) (by kernel_rfl) (by kernel_rfl)
      (OpenSpec.preRow_of_cond 8 hx (by kernel_rfl) (fun k hk => by cases hk; kernel_rfl) (by kernel_rfl) (laidMet_frameCuts os))) ?_
  intro W base args ds gs before hval0 hW hcnd hk hsz0 hL _ _
  have hval : ∀ (j : Nat) t v, Tryd.f4.params[j]? = some t → args[j]? = some v → Value.okWide Tryd.prog W .any base t v := hval0
  have hW' := hW
  obtain ⟨p, q, hA0, hV, rfl, hfz, hnd⟩ := hW
  have hA : DataW.TrodAll enc Tryd.prog W 0 (fun _ => true) true Tryd.f4.params.toList args.toList ds p := hA0
  rw [Tryd.params4] at hA hval
  obtain ⟨rfl, rfl⟩ := trodVars_none hV
  have hB := hA
  obtain ⟨v0, vs0, d0, ds0, p0, q0, hargs, rfl, rfl, h0, r0⟩ := trodAll_cons hA
  obtain ⟨v1, vs1, d1, ds1, p1, q1, rfl, rfl, rfl, h1, r1⟩ := trodAll_cons r0
  obtain ⟨rfl, rfl, rfl⟩ := trodAll_nil r1
  obtain rfl : args = #[v0, v1] := by cases args; simp_all
  have hsz : (DataW.weightsEach Tryd.prog [9, 9] [d0, d1]).all (· ≤ reachBytes) = true := hsz0
  have hbk : Rows.uptoBulkAll [d0, d1] ≤ 1048576 := of_decide_eq_true (hk _ rfl)
  have i0 := openU_string (hval 0 9 v0 rfl rfl) h0 (weights_le hsz 0 rfl rfl) (Nat.le_trans (bulk_part (d := d0) (by simp)) hbk)
  have i1 := openU_string (hval 1 9 v1 rfl rfl) h1 (weights_le hsz 1 rfl rfl) (Nat.le_trans (bulk_part (d := d1) (by simp)) hbk)
  refine (walk W v0 v1 hL i0 i1).mono fun e W' ⟨he, bel⟩ => ?_
  subst he
  exact ⟨_, rfl, _, _, _, [], _, [], hW', trodAll_mk1 (shut_bool Tryd.underlying4 _), trodAll_below laidOut (by kernel_rfl) hB bel, rfl, bel.frame _, fun h => by cases h⟩
theorem said_frameCuts (walk : ∀ (W : World) (v0 : Value) (v1 : Value), laidMetH Tryd.prog Rows.frameCutsUptoRow.laid W → IsU_string W v0 → IsU_string W v1 → Calls Tryd.prog 4 #[v0, v1] W fun e w' => e = .returned (.bool true) ∧ Below W.heap.size W w') : Rows.frameCutsUptoRow.holds Tryd.pinned (Rows.OpenSpec.upto Rows.frameCutsSpec) :=
  OpenClaim.holds_of_cond 4 Tryd.f4 rfl rfl rfl rfl rfl rfl rfl ⟨rfl, rfl, rfl, rfl, rfl⟩ rfl rfl rfl rfl rfl (by kernel_rfl) Tryd.func4 (by kernel_rfl)
    (of_decide_eq_true (by kernel_rfl)) (by unfold Func.isWrapper; first | (rw [if_pos (by decide +kernel)]; kernel_rfl) | (rw [if_neg (by decide +kernel)]; exact ⟨rfl, rfl⟩))
    (fun os started H enc _ F => by rw [OpenClaim.pre_eq_preRow]; exact lifted_frameCuts os started H enc F walk)
theorem plain_frameCuts (f : FuncId) (fn : Func) (hf : Tryd.pinned.checked.prog.funcNamed "lifelodge/lifelodgelaw.FrameCuts" = some f) (hfn : Tryd.pinned.checked.prog.funcs[f]? = some fn) :
    false = Tryd.pinned.checked.prog.looks [] ∧ ∀ (j : Nat) t, fn.params[j]? = some t → Tryd.pinned.checked.prog.wantsStandIn t = false := by
  obtain rfl : f = 4 := Option.some.inj ((show Tryd.prog.funcNamed "lifelodge/lifelodgelaw.FrameCuts" = some 4 by kernel_rfl).symm.trans hf) |>.symm
  obtain rfl : fn = Tryd.f4 := (Option.some.inj (Tryd.func4.symm.trans hfn)).symm
  refine ⟨by kernel_rfl, fun j t ht => ?_⟩
  rw [Tryd.params4] at ht
  have hall : ∀ t ∈ [9, 9], Tryd.prog.wantsStandIn t = false := by
    intro t ht
    simp only [List.mem_cons, List.not_mem_nil, or_false] at ht
    rcases ht with rfl | rfl <;> kernel_rfl
  exact hall t (by simpa using Array.mem_of_getElem? ht)
theorem over_frameCuts (walk : ∀ (W : World) (v0 : Value) (v1 : Value), laidMetH Tryd.prog Rows.frameCutsUptoRow.laid W → IsU_string W v0 → IsU_string W v1 → Calls Tryd.prog 4 #[v0, v1] W fun e w' => e = .returned (.bool true) ∧ Below W.heap.size W w') : Rows.FrameCutsUptoCardSaid :=
  Claim7.holds_tied_plain_at .later [] _ _ _ _ (said_frameCuts walk) (fun _ h => by cases h) (by kernel_rfl) (fun _ h => by cases h) frameCutsUpto_row_tie rfl ⟨rfl, rfl⟩ (by kernel_rfl) rfl plain_frameCuts (by kernel_rfl)
end
theorem frameCuts_proved : Rows.FrameCutsUptoCardSaid := over_frameCuts fun W _ _ _ ⟨s, e1, hs⟩ ⟨t, e2, ht⟩ => by
  subst e1
  subst e2
  have h := law_cuts s.data.toList t.data.toList W (by simpa using hs) (by simpa using ht)
  rw [txt_eta, txt_eta] at h
  exact h
end Go.Proofs.YtffgpjkkgndkiaaDoor
