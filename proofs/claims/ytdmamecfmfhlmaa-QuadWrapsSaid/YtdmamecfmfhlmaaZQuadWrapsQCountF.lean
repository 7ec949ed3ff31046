/-
  quad.Count.
-/
import Derived.Laws.EntriesVeiled
import Derived.Test.YtdmamecfmfhlmaaZQuadWrapsQCount
namespace Go.Proofs.Ytdmamecfmfhlmaa
set_option maxRecDepth 100000
open Go.RowKit

theorem Den.levelA {S : ArS} (ok : ArOk S) {t n : Nat} {T : Tree} {id : Int} (h : Den S.L t n T id) (ht : t < 64) : levelA S (t : Int) id = ((n : Int), 0) := by
  rw [levelA_yes ht h.owns, h.lev ok]
theorem make_intmap (W : World) : (Instr.makeMap 94 none).run Try.prog W = .ok (.map (some W.heap.size)) (W.alloc (.map #[] 0)) := rfl
/-- A walker of one's own. -/
theorem walk_any (b t : Nat) (w : World) : Calls Try.prog 38 #[.pointer (some ⟨b, 0, none⟩), .int .i64 t] w fun e w' => e = .returned (.pointer (some ⟨w.heap.size + 1, 0, none⟩)) ∧ Below w.heap.size w w' ∧ w'.heap[w.heap.size]? = some (.map #[] 0) ∧ w'.heap.size = w.heap.size + 2 ∧ HandAt (w.heap.size + 1) b t 0 96 (some (.map (some w.heap.size))) w' := by
  have hmk := make_intmap
  go_enter Try.func38, Try.ntmps38
  go_wp2_with fail
  go_ret
  refine ⟨by simp, ((Below.refl _ _).alloc (Nat.le_refl _) _).alloc (by simp) _, ?_, by simp, ?_⟩
  · rw [Below.heap_alloc _ _ _ (by simp)]; exact blk_last w _ rfl
  · refine ⟨#[.pointer (some ⟨b, 0, none⟩), .int .i64 t, .int .i64 0, .map (some w.heap.size)], ?_, rfl, rfl, rfl, rfl⟩
    have h := blk_last (w.alloc (.map #[] 0)) (.cells #[.pointer (some ⟨b, 0, none⟩), .int .i64 t, .int .i64 0, .map (some w.heap.size)] 96 (0, 0)) rfl
    simpa using h
set_option maxHeartbeats 4000000 in
set_option maxRecDepth 100000 in
theorem qcount_any (b t : Nat) (S : ArS) (F : Nat → Prop) (n : Nat) (T : Tree) (id : Int) (w : World) (h : IsAr b S w F) (ht : t < 64) (hd : Den S.L t n T id) (hc : cnt T ≤ bigC) :
    Calls Try.prog 13 #[.pointer (some ⟨b, 0, none⟩), .int .i64 t, .int .i64 id] w fun e w' => e = .returned (.tuple #[.int .i64 (cnt T), .int .i64 0]) ∧ Below w.heap.size w w' := by
  have HW := Lib.hid (walk_any b t w)
  have HI := Lib.hid h
  have HD := Lib.hid hd
  have HC := Lib.hid hc
  have HFL := Lib.hid h.lt
  have hmk := make_intmap
  obtain ⟨cn, hcn⟩ : ∃ cn : Nat, cn = cnt T := ⟨_, rfl⟩
  have HCB := Lib.hid (show (cn : Int) ≤ 1000000000000 by unfold bigC at hc; omega)
  have HCNE := Lib.hid hcn
  rw [← hcn]
  clear h hd hc hcn
  go_enter Try.func13, Try.ntmps13
  go_wp2_with fail
  with_reducible refine HW.out.mono ?_
  rintro e w1 ⟨rfl, hb1, hm1, hz1, hh1⟩
  obtain ⟨W2, hW2⟩ : ∃ W, W = w1.alloc (.cells #[.pointer (some ⟨w.heap.size + 1, 0, none⟩)] 92 (0, 0)) := ⟨_, rfl⟩
  have hz2 : W2.heap.size = w.heap.size + 3 := by rw [hW2]; simp [hz1]
  have hb2 : Below w1.heap.size w1 W2 := by rw [hW2]; exact (Below.refl _ _).alloc (Nat.le_refl _) _
  have h82 : W2.heap[w1.heap.size]? = some (.cells #[.pointer (some ⟨w.heap.size + 1, 0, none⟩)] 92 (0, 0)) := by rw [hW2]; exact blk_last w1 _ rfl
  obtain ⟨W3, hW3⟩ : ∃ W, W = W2.alloc (.map #[] 0) := ⟨_, rfl⟩
  have hm3 : MapOf intV I64 W3 W2.heap.size 0 (fun _ => none) := by rw [hW3]; exact MapOf.new intV I64 W2 0
  have hb3 : Below W2.heap.size W2 W3 := by rw [hW3]; exact (Below.refl _ _).alloc (Nat.le_refl _) _
  have hz3 : W3.heap.size = w.heap.size + 4 := by rw [hW3]; simp [hz2]
  obtain ⟨_, _, _, _, _, _, hen⟩ := MapOf.entry int_keyedV (t := 94) (e := 3) (z := .int .i64 0) Try.underlying94 (fun u => by kernel_rfl) hm3 (a := 0) (by unfold I64; omega)
  obtain ⟨W4, _, hu4, hm4, hk4, hz4⟩ := hen (.int .i64 0)
  obtain ⟨_, _, _, _, _, _, hen⟩ := MapOf.entry int_keyedV (t := 94) (e := 3) (z := .int .i64 0) Try.underlying94 (fun u => by kernel_rfl) hm4 (a := 1) (by unfold I64; omega)
  obtain ⟨W5, _, hu5, hm5, hk5, hz5⟩ := hen (.int .i64 1)
  unfold intV at hu4 hu5
  have hk35 : Keeps (fun i => i = W2.heap.size) W3 W5 := hk4.trans hk5 (fun _ _ h => h)
  obtain ⟨W6, hW6⟩ : ∃ W, W = W5.alloc (.cells #[.map (some W2.heap.size)] 94 (0, 0)) := ⟨_, rfl⟩
  have hb6 : Below W5.heap.size W5 W6 := by rw [hW6]; exact (Below.refl _ _).alloc (Nat.le_refl _) _
  have h96 : W6.heap[W5.heap.size]? = some (.cells #[.map (some W2.heap.size)] 94 (0, 0)) := by rw [hW6]; exact blk_last W5 _ rfl
  have hz5' : W5.heap.size = w.heap.size + 4 := by have h1 := hz4; have h2 := hz5; omega
  have hb26 : Below W2.heap.size W2 W6 := by
    refine ⟨hb6.os.trans (hk35.os.trans hb3.os), hb6.tape.trans (hk35.tape.trans hb3.tape), hb6.output.trans (hk35.output.trans hb3.output), Nat.le_trans hb3.size (Nat.le_trans hk35.size hb6.size), fun k hk => ?_⟩
    rw [hb6.block k (by omega), hk35.block k (by omega) (by omega), hb3.block k hk]
  have hb16 : Below w1.heap.size w1 W6 := hb2.trans (hb26.mono (by omega))
  have hb06 : Below w.heap.size w W6 := hb1.trans (hb16.mono (by omega))
  have hh6 : HandAt (w.heap.size + 1) b t 0 96 (some (.map (some w.heap.size))) W6 := hh1.keep (hb16.block _ (by omega))
  have h86 : W6.heap[w1.heap.size]? = some (.cells #[.pointer (some ⟨w.heap.size + 1, 0, none⟩)] 92 (0, 0)) := (hb26.block _ (by omega)).trans h82
  have hm6 := hm5.keep (hb6.block _ (by omega))
  have HW2 := Lib.hid hW2
  have HW3 := Lib.hid hW3
  have HW6 := Lib.hid hW6
  have HM6 := Lib.hid hm6
  have HH6 := Lib.hid hh6
  have HB6 := Lib.hid hb06
  have HI6 := Lib.hid (HI.out.below hb06)
  have H86 := Lib.hid h86
  have H96 := Lib.hid h96
  have HZ6 := Lib.hid (show W6.heap.size = w.heap.size + 5 by rw [hW6]; simp [hz5'])
  have hu4' := hu4
  rw [hW3] at hu4'
  have e8 := Joins.cell_of_block h86 0
  have e9 := Joins.cell_of_block h96 0
  simp at e8 e9
  have HLV := Lib.hid (hlevel_any (w.heap.size + 1) b t 0 96 (some (.map (some w.heap.size))) S F id W6 HI6.out hh6 (fun e => by have := HFL.out _ e; omega))
  rw [if_pos rfl, if_pos rfl, HD.out.levelA HI.out.ok ht] at HLV
  have HZ1 := Lib.hid hz1
  have HZ2 := Lib.hid hz2
  have HZ5 := Lib.hid hz5'
  clear hb1 hm1 hh1 hz2 hb2 h82 hm3 hb3 hz3 hen hm4 hk4 hz4 hm5 hk5 hz5 hk35 hb6 h96 hz5' hb26 hb16 hb06 hh6 h86 hm6 hW6 hW3 hu4 hz1
  go_upto_region 2 with fail
  rw [← hW2]
  clear hW2
  go_upto_region 3 with fail
  rw [← HW6.out]
  go_wp2_with fail
  with_reducible refine HLV.out.mono ?_
  rintro e w7 ⟨rfl, hh7, hk7⟩
  have hz6 := HZ6.out
  have hz1 := HZ1.out
  have hz2 := HZ2.out
  have hz5 := HZ5.out
  have h87 := (hk7.block _ (lt_of_block H86.out) (by omega)).trans H86.out
  have h97 := (hk7.block _ (lt_of_block H96.out) (by omega)).trans H96.out
  have hm7 := HM6.out.keep (hk7.block _ HM6.out.lt (by omega))
  have hi7 := HI6.out.keep hk7 (fun i hi e => by have := HFL.out i hi; omega)
  obtain ⟨fn, hfn⟩ : ∃ fn : Value, fn = .func (.func 40) #[] #[.pointer (some ⟨W5.heap.size, 0, none⟩), .pointer (some ⟨w1.heap.size, 0, none⟩), .pointer (some ⟨w7.heap.size, 0, none⟩)] := ⟨_, rfl⟩
  obtain ⟨W8, hW8⟩ : ∃ W, W = w7.alloc (.cells #[.func (.func 40) #[] #[.pointer (some ⟨W5.heap.size, 0, none⟩), .pointer (some ⟨w1.heap.size, 0, none⟩), .pointer (some ⟨w7.heap.size, 0, none⟩)]] 79 (0, 0)) := ⟨_, rfl⟩
  have hb8 : Below w7.heap.size w7 W8 := by rw [hW8]; exact (Below.refl _ _).alloc (Nat.le_refl _) _
  have h108 : W8.heap[w7.heap.size]? = some (.cells #[fn] 79 (0, 0)) := by rw [hW8, hfn]; exact blk_last w7 _ rfl
  have hz7 := hk7.size
  have hcst : CSt b t S F (w.heap.size + 1) W2.heap.size (some (.map (some w.heap.size))) w1.heap.size W5.heap.size w7.heap.size fn (0 + 1 + 1) (updM (updM (fun _ => none) 0 (.int .i64 0)) 1 (.int .i64 1)) W8 :=
    { ar := hi7.below hb8
      hand := hh7.keep (hb8.block _ hh7.lt)
      map := hm7.keep (hb8.block _ hm7.lt)
      memo := ⟨fun i v hv => by
        unfold updM at hv
        by_cases e1 : i = 1
        · rw [if_pos e1] at hv
          cases hv
          exact ⟨0, .leaf true, by rw [e1]; rfl, rfl, by decide⟩
        · rw [if_neg e1] at hv
          by_cases e0 : i = 0
          · rw [if_pos e0] at hv
            cases hv
            exact ⟨0, .leaf false, by rw [e0]; rfl, rfl, by decide⟩
          · rw [if_neg e0] at hv; exact absurd hv (by simp), rfl, rfl⟩
      m9 := (World.cell?_of_block (hb8.block _ (lt_of_block h97))).trans (Joins.cell_of_block h97 0)
      m8 := (World.cell?_of_block (hb8.block _ (lt_of_block h87))).trans (Joins.cell_of_block h87 0)
      m10 := Joins.cell_of_block h108 0
      d1 := ⟨fun e => by have := HFL.out _ e; omega, fun e => by have := HFL.out _ e; omega⟩
      d8 := ⟨by omega, by omega⟩
      d9 := ⟨by omega, by omega⟩
      d10 := ⟨by omega, by omega⟩
      dm := by omega }
  have HCN := Lib.hid (count_any n b t S F _ _ _ _ _ _ fn _ _ T id W8 hfn hcst ht HD.out HC.out)
  have g8 := Joins.cell_of_block h87 0
  have g9 := Joins.cell_of_block h97 0
  have g10 := Joins.cell_of_block h108 0
  simp at g8 g9 g10
  rw [hfn] at g10
  have g2 := hh7.c2
  have k8 := hcst.m8
  have HB8 := Lib.hid (show Below w.heap.size w W8 from HB6.out.trans (((hk7.toBelow (B := w.heap.size) (fun i e => by omega) HB6.out.size)).trans (hb8.mono (by omega))))
  have HW8 := Lib.hid hW8
  rw [← HCNE.out] at HCN
  have hcb := HCB.out
  have tm : decide ((cn : Int) ≥ 4611686018427387904) = false := decide_eq_false (by omega)
  have tm2 : decide ((4611686018427387904 : Int) ≤ (cn : Int)) = false := decide_eq_false (by omega)
  have tm3 : decide (4611686018427387904 ≤ cn) = false := decide_eq_false (by omega)
  clear hh7 hk7 h87 h97 hm7 hi7 hW8 hb8 h108 hz7 hcst hz6 hz1 hz2 hz5 e8 e9
  go_upto_region 8 with fail
  rw [← HW8.out]
  go_wp2_with fail
  with_reducible refine HCN.out.mono ?_
  rintro e w9 ⟨rfl, nn', f', hst, hk9⟩
  have j8 := hst.m8
  have j2 := hst.hand.c2
  have HB9 := Lib.hid (HB8.out.trans (hk9.toBelow (B := w.heap.size) (fun i e => by have := HZ2.out; omega) HB8.out.size))
  clear hst hk9 g8 g9 g10 g2 k8
  go_wp2_with fail
  go_ret2
  exact ⟨rfl, HB9.out⟩
end Go.Proofs.Ytdmamecfmfhlmaa
