/-
  quad's Count: how many cells live in a square.
-/
import Derived.Test.YtdmamecfmfhlmaaZQuadPutsQFrom
import Derived.Test.YtdmamecfmfhlmaaZQuadPutsMapCells
namespace Go.Proofs.Ytdmamecfmfhlmaa
set_option maxRecDepth 100000
open Go.RowKit

def intV (i : Int) : Value := .int .i64 i
theorem int_keyedV : KeyedBy Try.prog 3 intV I64 where
  law := Maps.int_keyed Try.underlying3
  inj := fun a b h => by simpa [intV] using h
  reads := fun x hx => ⟨_, Maps.keyOf_int_mk Try.underlying3 (WalkArith.wf_i64 (by unfold I64 at hx; omega))⟩
theorem cap_sum {x B : Int} {z : Nat} (h : x = z) (hb : (z : Int) ≤ B) : min x B = z := by omega
def cnt : Tree → Nat
  | .leaf b => if b then 1 else 0
  | .node a b c d => cnt a + cnt b + cnt c + cnt d
def bigC : Nat := 1000000000000
/-- What is kept is right. -/
structure Memo (L : List (Option Ent)) (t : Nat) (f : Int → Option Value) : Prop where
  all : ∀ id v, f id = some v → ∃ n T, Den L t n T id ∧ v = .int .i64 (cnt T) ∧ cnt T ≤ bigC
  zero : f 0 = some (.int .i64 0)
  one : f 1 = some (.int .i64 1)
theorem Den.level {S : ArS} (ok : ArOk S) {t n m : Nat} {T U : Tree} {id : Int} (h : Den S.L t n T id) (k : Den S.L t m U id) : n = m ∧ T = U := by
  have e : n = m := by
    have := (h.lev ok).symm.trans (k.lev ok)
    omega
  subst e
  exact ⟨rfl, h.same k⟩
/-- The state of a count. -/
structure CSt (b t : Nat) (S : ArS) (F : Nat → Prop) (wb mb : Nat) (rest : Option Value) (c8 c9 c10 : Nat) (fn : Value) (nn : Nat) (f : Int → Option Value) (w : World) : Prop where
  ar : IsAr b S w F
  hand : HandAt wb b t 0 96 rest w
  map : MapOf intV I64 w mb nn f
  memo : Memo S.L t f
  m9 : w.cell? ⟨c9, 0, none⟩ = some (.map (some mb))
  m8 : w.cell? ⟨c8, 0, none⟩ = some (.pointer (some ⟨wb, 0, none⟩))
  m10 : w.cell? ⟨c10, 0, none⟩ = some fn
  d1 : ¬ F wb ∧ ¬ F mb
  d8 : c8 ≠ wb ∧ c8 ≠ mb
  d9 : c9 ≠ wb ∧ c9 ≠ mb
  d10 : c10 ≠ wb ∧ c10 ≠ mb
  dm : wb ≠ mb
section
variable {b t : Nat} {S : ArS} {F : Nat → Prop} {wb mb : Nat} {rest : Option Value} {c8 c9 c10 : Nat} {fn : Value} {nn : Nat} {f : Int → Option Value} {w w' : World}
theorem CSt.hands (h : CSt b t S F wb mb rest c8 c9 c10 fn nn f w) (hh : HandAt wb b t 0 96 rest w') (hk : Keeps (fun i => i = wb) w w') : CSt b t S F wb mb rest c8 c9 c10 fn nn f w' :=
  { h with
    ar := h.ar.keep hk (fun i hi e => h.d1.1 (by rw [← e]; exact hi))
    hand := hh
    map := h.map.keep (hk.block mb h.map.lt (fun e => h.dm e.symm))
    m9 := (hk.cell (p := ⟨c9, 0, none⟩) (World.block_lt_of_cell? w _ h.m9) h.d9.1).trans h.m9
    m8 := (hk.cell (p := ⟨c8, 0, none⟩) (World.block_lt_of_cell? w _ h.m8) h.d8.1).trans h.m8
    m10 := (hk.cell (p := ⟨c10, 0, none⟩) (World.block_lt_of_cell? w _ h.m10) h.d10.1).trans h.m10 }
theorem CSt.stored (h : CSt b t S F wb mb rest c8 c9 c10 fn nn f w) {id : Int} {n : Nat} {T : Tree} (hd : Den S.L t n T id) (hc : cnt T ≤ bigC) {nn' : Nat} (hm : MapOf intV I64 w' mb nn' (updM f id (.int .i64 (cnt T)))) (hk : Keeps (fun i => i = mb) w w') (h0 : id ≠ 0) (h1 : id ≠ 1) : CSt b t S F wb mb rest c8 c9 c10 fn nn' (updM f id (.int .i64 (cnt T))) w' :=
  { h with
    ar := h.ar.keep hk (fun i hi e => h.d1.2 (by rw [← e]; exact hi))
    hand := h.hand.keep (hk.block wb h.hand.lt h.dm)
    map := hm
    memo := ⟨fun i v hv => by
      by_cases e : i = id
      · rw [e, updM_same] at hv
        cases hv
        exact ⟨n, T, by rw [e]; exact hd, rfl, hc⟩
      · rw [updM_other f _ e] at hv
        exact h.memo.all i v hv, by rw [updM_other f _ (Ne.symm h0)]; exact h.memo.zero, by rw [updM_other f _ (Ne.symm h1)]; exact h.memo.one⟩
    m9 := (hk.cell (p := ⟨c9, 0, none⟩) (World.block_lt_of_cell? w _ h.m9) h.d9.2).trans h.m9
    m8 := (hk.cell (p := ⟨c8, 0, none⟩) (World.block_lt_of_cell? w _ h.m8) h.d8.2).trans h.m8
    m10 := (hk.cell (p := ⟨c10, 0, none⟩) (World.block_lt_of_cell? w _ h.m10) h.d10.2).trans h.m10 }
end
def CountOk (n : Nat) : Prop := ∀ (b t : Nat) (S : ArS) (F : Nat → Prop) (wb mb : Nat) (rest : Option Value) (c8 c9 c10 : Nat) (fn : Value) (nn : Nat) (f : Int → Option Value) (T : Tree) (id : Int) (w : World), fn = .func (.func 40) #[] #[.pointer (some ⟨c9, 0, none⟩), .pointer (some ⟨c8, 0, none⟩), .pointer (some ⟨c10, 0, none⟩)] →
  CSt b t S F wb mb rest c8 c9 c10 fn nn f w → t < 64 → Den S.L t n T id → cnt T ≤ bigC →
  Calls Try.prog 40 #[.int .i64 id, .pointer (some ⟨c9, 0, none⟩), .pointer (some ⟨c8, 0, none⟩), .pointer (some ⟨c10, 0, none⟩)] w fun e w' => e = .returned (.int .i64 (cnt T)) ∧ ∃ nn' f', CSt b t S F wb mb rest c8 c9 c10 fn nn' f' w' ∧ Keeps (fun i => i = wb ∨ i = mb) w w'
theorem count_zero : CountOk 0 := by
  intro b t S F wb mb rest c8 c9 c10 fn nn f T id w hfn h ht hd hc
  have hid : f id = some (.int .i64 (cnt T)) := by
    match T, hd with
    | .leaf bb, hd =>
      have hd : id = if bb then 1 else 0 := hd
      cases bb with
      | true => rw [hd]; exact h.memo.one
      | false => rw [hd]; exact h.memo.zero
  have hlook := h.map.look_ok int_keyedV (t := 94) (e := 3) (z := .int .i64 0) Try.underlying94 (fun u => by kernel_rfl) (hd.i64 h.ar.ok)
  rw [hid] at hlook
  simp only [Option.getD_some, Option.isSome_some] at hlook
  unfold intV at hlook
  have m9 := h.m9
  have HH := Lib.hid h
  obtain ⟨cn, hcn⟩ : ∃ cn : Nat, cn = cnt T := ⟨_, rfl⟩
  rw [← hcn] at hlook ⊢
  clear h hd hid hc hcn hfn
  go_enter Try.func40, Try.ntmps40
  go_wp2_with fail
  go_ret
  exact ⟨rfl, nn, f, HH.out, Keeps.refl _ _⟩
set_option maxHeartbeats 4000000 in
set_option maxRecDepth 100000 in
theorem count_succ (n : Nat) (IH : CountOk n) : CountOk (n + 1) := by
  intro b t S F wb mb rest c8 c9 c10 fn nn f T id w hfn h ht hd hc
  have h64 := hd.i64 h.ar.ok
  have hlook := h.map.look_ok int_keyedV (t := 94) (e := 3) (z := .int .i64 0) Try.underlying94 (fun u => by kernel_rfl) h64
  have m9 := h.m9
  have m8 := h.m8
  have HH := Lib.hid h
  have HD := Lib.hid hd
  cases hf : f id with
  | some v =>
    obtain ⟨m, U, hU, rfl, hUc⟩ := h.memo.all id v hf
    obtain ⟨_, rfl⟩ := Den.level h.ar.ok hd hU
    rw [hf] at hlook
    simp only [Option.getD_some, Option.isSome_some] at hlook
    unfold intV at hlook
    obtain ⟨cn, hcn⟩ : ∃ cn : Nat, cn = cnt T := ⟨_, rfl⟩
    rw [← hcn] at hlook ⊢
    clear h hd hf hU hc hcn hfn hUc m8 h64
    go_enter Try.func40, Try.ntmps40
    go_wp2_with fail
    go_ret
    exact ⟨rfl, nn, f, HH.out, Keeps.refl _ _⟩
  | none =>
    rw [hf] at hlook
    simp only [Option.getD_none, Option.isSome_none] at hlook
    unfold intV at hlook
    obtain ⟨Ta, Tb, Tc, Td, rfl⟩ : ∃ a b c d, T = .node a b c d := by
      match T, hd with
      | .node a b c d, _ => exact ⟨a, b, c, d, rfl⟩
    have hd0 := hd
    obtain ⟨h2, x, h3, h4, h5, h6, xa, xb, xc, xd⟩ := hd0
    obtain ⟨i, rfl⟩ : ∃ i : Nat, id = i := ⟨id.toNat, by omega⟩
    have hi2 : 2 ≤ i := by omega
    rw [Int.toNat_natCast] at h3
    have hkd : kidsA S t (i : Int) = ((x.a, x.b, x.c, x.d), 0) := kidsA_yes ht hd.owns hi2 h3
    have hkids := hkids_any wb b t 0 96 rest S F (i : Int) w h.ar h.hand h.d1.1
    rw [if_pos rfl, if_pos rfl, hkd] at hkids
    unfold fourV at hkids
    simp only at hkids
    obtain ⟨q0, hq0⟩ : ∃ q, q = x.a := ⟨_, rfl⟩
    obtain ⟨q1, hq1⟩ : ∃ q, q = x.b := ⟨_, rfl⟩
    obtain ⟨q2, hq2⟩ : ∃ q, q = x.c := ⟨_, rfl⟩
    obtain ⟨q3, hq3⟩ : ∃ q, q = x.d := ⟨_, rfl⟩
    rw [← hq0] at xa hkids
    rw [← hq1] at xb hkids
    rw [← hq2] at xc hkids
    rw [← hq3] at xd hkids
    have hcs : cnt (.node Ta Tb Tc Td) = cnt Ta + cnt Tb + cnt Tc + cnt Td := rfl
    obtain ⟨s0, hs0⟩ : ∃ s : Nat, s = cnt Ta := ⟨_, rfl⟩
    obtain ⟨s1, hs1⟩ : ∃ s : Nat, s = cnt Tb := ⟨_, rfl⟩
    obtain ⟨s2, hs2⟩ : ∃ s : Nat, s = cnt Tc := ⟨_, rfl⟩
    obtain ⟨s3, hs3⟩ : ∃ s : Nat, s = cnt Td := ⟨_, rfl⟩
    obtain ⟨z1, hz1⟩ : ∃ z : Nat, z = s0 := ⟨_, rfl⟩
    obtain ⟨z2, hz2⟩ : ∃ z : Nat, z = z1 + s1 := ⟨_, rfl⟩
    obtain ⟨z3, hz3⟩ : ∃ z : Nat, z = z2 + s2 := ⟨_, rfl⟩
    obtain ⟨z4, hz4⟩ : ∃ z : Nat, z = z3 + s3 := ⟨_, rfl⟩
    have hbig : z4 ≤ 1000000000000 := by unfold bigC at hc; omega
    have m1' : min ((0 : Int) + (s0 : Int)) 4611686018427387904 = (z1 : Int) := cap_sum (by omega) (by omega)
    have m1'' : min (s0 : Int) 4611686018427387904 = (z1 : Int) := by rw [← m1']; congr 1; omega
    have m2' : min ((z1 : Int) + (s1 : Int)) 4611686018427387904 = (z2 : Int) := cap_sum (by omega) (by omega)
    have m3' : min ((z2 : Int) + (s2 : Int)) 4611686018427387904 = (z3 : Int) := cap_sum (by omega) (by omega)
    have m4' : min ((z3 : Int) + (s3 : Int)) 4611686018427387904 = (z4 : Int) := cap_sum (by omega) (by omega)
    have b1 : (z1 : Int) ≤ 1000000000000 := by omega
    have b2 : (z2 : Int) ≤ 1000000000000 := by omega
    have b3 : (z3 : Int) ≤ 1000000000000 := by omega
    have b4 : (s0 : Int) ≤ 1000000000000 := by omega
    have b5 : (s1 : Int) ≤ 1000000000000 := by omega
    have b6 : (s2 : Int) ≤ 1000000000000 := by omega
    have b7 : (s3 : Int) ≤ 1000000000000 := by omega
    have HZ4 := Lib.hid (show z4 = cnt (.node Ta Tb Tc Td) by rw [hcs]; omega)
    have HCB := Lib.hid (show cnt Ta ≤ bigC ∧ cnt Tb ≤ bigC ∧ cnt Tc ≤ bigC ∧ cnt Td ≤ bigC by unfold bigC; omega)
    have HC := Lib.hid hc
    have HDA := Lib.hid xa
    have HDB := Lib.hid xb
    have HDC := Lib.hid xc
    have HDD := Lib.hid xd
    have HS0 := Lib.hid hs0
    have HS1 := Lib.hid hs1
    have HS2 := Lib.hid hs2
    have HS3 := Lib.hid hs3
    have HIH := Lib.hid IH
    have HFN := Lib.hid hfn
    have HK := Lib.hid hkids
    have H64 := Lib.hid h64
    have i0 : ∀ W, (Instr.index 61 (.agg #[.int .i64 q0, .int .i64 q1, .int .i64 q2, .int .i64 q3]) (.int .i64 0)).run Try.prog W = .ok (.int .i64 q0) W := fun W => by kernel_rfl
    have i1 : ∀ W, (Instr.index 61 (.agg #[.int .i64 q0, .int .i64 q1, .int .i64 q2, .int .i64 q3]) (.int .i64 1)).run Try.prog W = .ok (.int .i64 q1) W := fun W => by kernel_rfl
    have i2 : ∀ W, (Instr.index 61 (.agg #[.int .i64 q0, .int .i64 q1, .int .i64 q2, .int .i64 q3]) (.int .i64 2)).run Try.prog W = .ok (.int .i64 q2) W := fun W => by kernel_rfl
    have i3 : ∀ W, (Instr.index 61 (.agg #[.int .i64 q0, .int .i64 q1, .int .i64 q2, .int .i64 q3]) (.int .i64 3)).run Try.prog W = .ok (.int .i64 q3) W := fun W => by kernel_rfl
    rw [← HZ4.out]
    clear h hd hf hc hfn h2 h3 h4 h5 h6 xa xb xc xd hkd hkids hq0 hq1 hq2 hq3 hcs hs0 hs1 hs2 hs3 hz1 hz2 hz3 hz4 hbig IH h64
    go_enter Try.func40, Try.ntmps40
    go_wp2_with fail
    with_reducible refine HK.out.mono ?_
    rintro e w0 ⟨rfl, hh0, hk0⟩
    have HST0 := Lib.hid (HH.out.hands hh0 hk0)
    have HKP0 := Lib.hid (hk0.mono (G := fun i => i = wb ∨ i = mb) fun i _ e => .inl e)
    clear hh0 hk0 hlook m8 m9
    go_wp2_with fail
    refine wp_loop_rounds 5 ?_
    rw [rounds_succ]
    have m10_0 := HST0.out.m10
    rw [HFN.out] at m10_0
    have HC0 := Lib.hid (HIH.out b t S F wb mb rest c8 c9 c10 fn nn f Ta q0 w0 HFN.out HST0.out ht HDA.out HCB.out.1)
    rw [← HS0.out] at HC0
    go_wp2_with fail
    with_reducible refine HC0.out.mono ?_
    rintro e w1 ⟨rfl, nn1, f1, hst1, hk1⟩
    have HST1 := Lib.hid hst1
    have HKP1 := Lib.hid (HKP0.out.trans hk1 (fun _ _ h => h))
    clear hst1 hk1 m10_0
    go_wp2_with fail
    rw [rounds_succ]
    have m10_1 := HST1.out.m10
    rw [HFN.out] at m10_1
    have HC1 := Lib.hid (HIH.out b t S F wb mb rest c8 c9 c10 fn nn1 f1 Tb q1 w1 HFN.out HST1.out ht HDB.out HCB.out.2.1)
    rw [← HS1.out] at HC1
    go_wp2_with fail
    with_reducible refine HC1.out.mono ?_
    rintro e w2 ⟨rfl, nn2, f2, hst2, hk2⟩
    have HST2 := Lib.hid hst2
    have HKP2 := Lib.hid (HKP1.out.trans hk2 (fun _ _ h => h))
    clear hst2 hk2 m10_1
    go_wp2_with fail
    rw [rounds_succ]
    have m10_2 := HST2.out.m10
    rw [HFN.out] at m10_2
    have HC2 := Lib.hid (HIH.out b t S F wb mb rest c8 c9 c10 fn nn2 f2 Tc q2 w2 HFN.out HST2.out ht HDC.out HCB.out.2.2.1)
    rw [← HS2.out] at HC2
    go_wp2_with fail
    with_reducible refine HC2.out.mono ?_
    rintro e w3 ⟨rfl, nn3, f3, hst3, hk3⟩
    have HST3 := Lib.hid hst3
    have HKP3 := Lib.hid (HKP2.out.trans hk3 (fun _ _ h => h))
    clear hst3 hk3 m10_2
    go_wp2_with fail
    rw [rounds_succ]
    have m10_3 := HST3.out.m10
    rw [HFN.out] at m10_3
    have HC3 := Lib.hid (HIH.out b t S F wb mb rest c8 c9 c10 fn nn3 f3 Td q3 w3 HFN.out HST3.out ht HDD.out HCB.out.2.2.2)
    rw [← HS3.out] at HC3
    go_wp2_with fail
    with_reducible refine HC3.out.mono ?_
    rintro e w4 ⟨rfl, nn4, f4, hst4, hk4⟩
    have HST4 := Lib.hid hst4
    have HKP4 := Lib.hid (HKP3.out.trans hk4 (fun _ _ h => h))
    clear hst4 hk4 m10_3
    go_wp2_with fail
    rw [rounds_succ]
    obtain ⟨st, W1', hen1, hen2, hen3, hen4, hen5⟩ := MapOf.entry int_keyedV (t := 94) (e := 3) (z := .int .i64 0) Try.underlying94 (fun u => by kernel_rfl) HST4.out.map H64.out
    obtain ⟨W5, hW5a, hW5b, hM5, hK5, hZ5⟩ := hen5 (.int .i64 (z4 : Int))
    unfold intV at hW5b
    have k9 := HST4.out.m9
    have HM5 := Lib.hid hM5
    have HK5 := Lib.hid hK5
    clear hen1 hen2 hen3 hen4 hen5 hW5a hM5 hK5 hZ5
    go_wp2_with fail
    go_ret
    refine ⟨rfl, _, _, HST4.out.stored HD.out HC.out (by rw [← HZ4.out]; exact HM5.out) HK5.out (by omega) (by omega), HKP4.out.trans HK5.out (fun i _ e => .inr e)⟩
theorem count_any : ∀ n, CountOk n
  | 0 => count_zero
  | n + 1 => count_succ n (count_any n)
end Go.Proofs.Ytdmamecfmfhlmaa
