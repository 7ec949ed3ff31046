/-
  quad.Box.
-/
import Derived.Test.YtdmamecfmfhlmaaZQuadReadsQEdge
namespace Go.Proofs.Ytdmamecfmfhlmaa
set_option maxRecDepth 100000
open Go.RowKit

def boxV (n : Nat) (T : Tree) : Value := if emB T then .agg #[.int .i64 0, .int .i64 0, .int .i64 0, .int .i64 0] else
  .agg #[.int .i64 ((edgeT n 2 T : Int) - (2 ^ (n - 1) : Nat)), .int .i64 ((edgeT n 0 T : Int) - (2 ^ (n - 1) : Nat)), .int .i64 (((2 ^ (n - 1) : Nat) : Int) - 1 - edgeT n 3 T), .int .i64 (((2 ^ (n - 1) : Nat) : Int) - 1 - edgeT n 1 T)]
theorem mem_fresh {w : World} {m : Nat} (h : w.heap[m]? = some (.map #[] 0)) : MapOf intV I64 w m 0 (fun _ => none) := ⟨#[], 0, h, by simp, by simp [MapKept.Stamped], fun e he => by simp at he, fun a v hv => by cases hv⟩
set_option maxHeartbeats 8000000 in
set_option maxRecDepth 100000 in
theorem qbox_any (b t : Nat) (S : ArS) (F : Nat → Prop) (n : Nat) (T : Tree) (id : Int) (w : World) (h : IsAr b S w F) (ht : t < 64) (hd : Den S.L t (n + 1) T id) (hn : n + 1 ≤ 44) :
    Calls Try.prog 21 #[.pointer (some ⟨b, 0, none⟩), .int .i64 t, .int .i64 id] w fun e w' => e = .returned (.tuple #[boxV (n + 1) T, .bool (!emB T), .int .i64 0]) ∧ Below w.heap.size w w' := by
  have hmk := make_intmap
  obtain ⟨X, hX⟩ : ∃ X, X = w.alloc (.cells #[.int .i64 0, .int .i64 0, .int .i64 0, .int .i64 0] 44 (0, 0)) := ⟨_, rfl⟩
  have hbX : Below w.heap.size w X := by rw [hX]; exact (Below.refl _ _).alloc (Nat.le_refl _) _
  have hbox : X.heap[w.heap.size]? = some (.cells #[.int .i64 0, .int .i64 0, .int .i64 0, .int .i64 0] 44 (0, 0)) := by rw [hX]; exact blk_last w _ rfl
  have HW := Lib.hid (walk_any b t X)
  have HI := Lib.hid (h.below hbX)
  have HFL := Lib.hid h.lt
  have HD := Lib.hid hd
  have HLA := Lib.hid (hd.levelA h.ok ht)
  have HXE := Lib.hid hX
  have HBX := Lib.hid hbX
  have HBO := Lib.hid hbox
  have hXw : w.heap.size < X.heap.size := lt_of_block hbox
  have hXs : X.heap.size = w.heap.size + 1 := by rw [hX]; simp
  have HXS := Lib.hid hXs
  obtain ⟨lv, hlv⟩ : ∃ lv : Nat, lv = n + 1 := ⟨_, rfl⟩
  have hlI : ((n + 1 : Nat) : Int) = (lv : Int) := by omega
  rw [hlI] at HLA
  have hlz : ((lv : Int) == 0) = false := by simp; omega
  have hlz2 : (lv == 0) = false := by simp; omega
  have HLV0 := Lib.hid hlv
  obtain ⟨H, hH⟩ : ∃ H : Nat, H = 2 ^ n := ⟨_, rfl⟩
  have hHb : H ≤ 8796093022208 := by
    have : 2 ^ n ≤ 2 ^ 43 := Nat.pow_le_pow_right (by omega) (by omega)
    omega
  have HHF := Lib.hid (show ∀ W : World, Calls Try.prog 45 #[.int .i64 (lv : Int)] W fun e w' => e = .returned (.int .i64 (H : Int)) ∧ w' = W from fun W => by
    have hf := half_any lv (by omega) (by omega) W
    rw [hlv] at hf
    rw [hlv, hH]; exact hf)
  have HHE := Lib.hid hH
  have HNB := Lib.hid hn
  clear h hd hX hbX hbox hXs hlv hlI hH hn
  go_enter Try.func21, Try.ntmps21
  go_upto_region 1 with fail
  rw [← HXE.out]
  go_wp2_with fail
  with_reducible refine HW.out.mono ?_
  rintro e w1 ⟨rfl, hb1, hm1, hz1, hh1⟩
  have HLV := Lib.hid (hlevel_any (X.heap.size + 1) b t 0 96 (some (.map (some X.heap.size))) S F id w1 (HI.out.below hb1) hh1 (fun e => by have := HFL.out _ e; omega))
  rw [if_pos rfl, if_pos rfl, HLA.out] at HLV
  have HB1 := Lib.hid hb1
  have HM1 := Lib.hid hm1
  have HZ1 := Lib.hid hz1
  clear hb1 hm1 hh1 hz1
  go_wp2_with fail
  with_reducible refine HLV.out.mono ?_
  rintro e w2 ⟨rfl, hh2, hk2⟩
  have c2 := hh2.c2
  have hbo : w2.heap[w.heap.size]? = some (.cells #[.int .i64 0, .int .i64 0, .int .i64 0, .int .i64 0] 44 (0, 0)) := (hk2.block _ (Nat.lt_of_lt_of_le hXw HB1.out.size) (by omega)).trans ((HB1.out.block _ hXw).trans HBO.out)
  have hm2 : w2.heap[X.heap.size]? = some (.map #[] 0) := (hk2.block _ (by have := HZ1.out; omega) (by omega)).trans HM1.out
  have hst : WSt b t S F (X.heap.size + 1) X.heap.size 0 (fun _ => none) w2 := ⟨(HI.out.below HB1.out).keep hk2 (fun i hi e => by have := HFL.out i hi; omega), hh2, mem_fresh hm2, ⟨fun i v hv => by cases hv⟩, ⟨fun e => by have := HFL.out _ e; omega, fun e => by have := HFL.out _ e; omega⟩, by omega⟩
  have hB2 : Below w.heap.size w w2 := HBX.out.trans ((HB1.out.mono (by omega)).trans (hk2.toBelow (B := w.heap.size) (fun i e => by omega) (by have := HB1.out.size; omega)))
  have hHX : X.heap.size + 2 ≤ w2.heap.size := by have := HZ1.out; have := hk2.size; omega
  obtain ⟨wb, hwb⟩ : ∃ wb, wb = X.heap.size + 1 := ⟨_, rfl⟩
  obtain ⟨mb, hmb⟩ : ∃ mb, mb = X.heap.size := ⟨_, rfl⟩
  rw [← hwb, ← hmb] at hst
  rw [← hwb] at c2 ⊢
  have HEM := Lib.hid (wempty_any (n + 1) b t S F wb mb 0 (fun _ => none) T id w2 hst ht HD.out)
  have hws : w.heap.size < mb ∧ mb < wb := by omega
  have HB2 := Lib.hid hB2
  have HBO2 := Lib.hid hbo
  obtain ⟨eb, heb⟩ : ∃ eb, eb = emB T := ⟨_, rfl⟩
  rw [← heb] at HEM
  have HEB := Lib.hid heb
  clear heb hh2 hk2 hbo hm2 hst hB2 hwb hmb hHX
  go_upto_region 7 with fail
  clear c2
  go_wp2_with fail
  with_reducible refine HEM.out.mono ?_
  rintro e w3 ⟨rfl, nn0, f0, hst0, hk3⟩
  have hbo : w3.heap[w.heap.size]? = some (.cells #[.int .i64 0, .int .i64 0, .int .i64 0, .int .i64 0] 44 (0, 0)) := (hk3.block _ (lt_of_block HBO2.out) (by omega)).trans HBO2.out
  have hB3 : Below w.heap.size w w3 := HB2.out.trans (hk3.toBelow (B := w.heap.size) (fun i e => by omega) HB2.out.size)
  have r0 := Joins.cell_of_block hbo 0
  have r1 := Joins.cell_of_block hbo 1
  have r2 := Joins.cell_of_block hbo 2
  have r3 := Joins.cell_of_block hbo 3
  have r4 := fun j => Joins.unfrozen_of_block hbo j
  simp at r0 r1 r2 r3
  have HST0 := Lib.hid hst0
  have HB3 := Lib.hid hB3
  have HBO3 := Lib.hid hbo
  clear hst0 hk3 hB3 hbo
  cases eb with
  | true =>
    go_wp2_with fail
    generalize hZ : (((w3.setCell ⟨w.heap.size, 0, none⟩ (.int .i64 0)).setCell ⟨w.heap.size, 1, none⟩ (.int .i64 0)).setCell ⟨w.heap.size, 2, none⟩ (.int .i64 0)).setCell ⟨w.heap.size, 3, none⟩ (.int .i64 0) = Z
    have hZb : Z.heap[w.heap.size]? = some (.cells #[.int .i64 0, .int .i64 0, .int .i64 0, .int .i64 0] 44 (0, 0)) := by rw [← hZ]; exact set4 HBO3.out
    have z0 := Joins.cell_of_block hZb 0
    have z1 := Joins.cell_of_block hZb 1
    have z2 := Joins.cell_of_block hZb 2
    have z3 := Joins.cell_of_block hZb 3
    simp at z0 z1 z2 z3
    refine bodyPost_ret (v := .tuple #[.agg #[.int .i64 0, .int .i64 0, .int .i64 0, .int .i64 0], .bool false, .int .i64 0]) (by simp [results, Try.results21, go_sem, z0, z1, z2, z3]) rfl ⟨?_, ?_⟩
    · unfold boxV
      rw [← HEB.out]; rfl
    · rw [← hZ]
      exact (((HB3.out.setCell (Nat.le_refl _) _).setCell (Nat.le_refl _) _).setCell (Nat.le_refl _) _).setCell (Nat.le_refl _) _
  | false =>
    obtain ⟨Y0, hY0⟩ : ∃ Y, Y = w3.alloc (.cells #[.int .i64 0, .int .i64 0, .int .i64 0, .int .i64 0] 61 (0, 0)) := ⟨_, rfl⟩
    have hbY : Below w3.heap.size w3 Y0 := by rw [hY0]; exact (Below.refl _ _).alloc (Nat.le_refl _) _
    have hdY : Y0.heap[w3.heap.size]? = some (.cells #[.int .i64 0, .int .i64 0, .int .i64 0, .int .i64 0] 61 (0, 0)) := by rw [hY0]; exact blk_last w3 _ rfl
    have HS0 := Lib.hid (HST0.out.below hbY)
    have HBY0 := Lib.hid (HB3.out.trans (hbY.mono HB3.out.size))
    have HBO0 := Lib.hid ((hbY.block _ (lt_of_block HBO3.out)).trans HBO3.out)
    have HDY0 := Lib.hid hdY
    have HYE0 := Lib.hid hY0
    have hww : w.heap.size < w3.heap.size ∧ wb < w3.heap.size ∧ mb < w3.heap.size := ⟨lt_of_block HBO3.out, HST0.out.hand.lt, HST0.out.map.lt⟩
    clear hbY hdY hY0
    go_upto_region 10 with fail
    rw [← HYE0.out]
    clear r0 r1 r2 r3 r4
    go_wp2_with fail
    refine wp_loop_rounds 5 ?_
    rw [rounds_succ]
    obtain ⟨M0, hM⟩ : ∃ M, M = Y0.alloc (.map #[] 0) := ⟨_, rfl⟩
    have hbM : Below Y0.heap.size Y0 M0 := by rw [hM]; exact (Below.refl _ _).alloc (Nat.le_refl _) _
    have hmM : M0.heap[Y0.heap.size]? = some (.map #[] 0) := by rw [hM]; exact blk_last Y0 _ rfl
    have hdW : w3.heap.size < Y0.heap.size := lt_of_block HDY0.out
    have hG : GSt b t S F wb mb Y0.heap.size nn0 f0 0 (fun _ => none) 0 M0 := ⟨HS0.out.below hbM, mem_fresh hmM, ⟨fun i v hv => by cases hv⟩, ⟨fun e => by have := HFL.out _ e; omega, by omega, by omega⟩⟩
    have he := edge_any (n + 1) HNB.out b t S F wb mb Y0.heap.size nn0 f0 0 (fun _ => none) 0 T id M0 (by omega) hG ht HD.out HEB.out.symm
    obtain ⟨e0, he0⟩ : ∃ e : Nat, e = edgeT (n + 1) 0 T := ⟨_, rfl⟩
    have heb0 : e0 < 17592186044416 + 1 := by
      have h1 := edge_lt (s := 0) (by omega) HD.out.full HEB.out.symm
      rw [← he0] at h1
      have h2 : 2 ^ (n + 1) ≤ 2 ^ 44 := Nat.pow_le_pow_right (by omega) HNB.out
      omega
    rw [← he0, ← HLV0.out] at he
    rw [show ((0 : Nat) : Int) = 0 from rfl] at he
    have HE0 := Lib.hid he
    have HEE0 := Lib.hid he0
    have HMB := Lib.hid hbM
    have HMM := Lib.hid hmM
    have HME := Lib.hid hM
    clear hbM hmM hG he he0 hM
    go_wp2_with fail
    try rw [← HME.out]
    with_reducible refine HE0.out.mono ?_
    rintro e v0 ⟨rfl, nn1, f1, nm0, g0, hg, hk⟩
    have hdv : v0.heap[w3.heap.size]? = some (.cells #[.int .i64 0, .int .i64 0, .int .i64 0, .int .i64 0] 61 (0, 0)) := (hk.block _ (Nat.lt_of_lt_of_le hdW HMB.out.size) (by omega)).trans ((HMB.out.block _ hdW).trans HDY0.out)
    have hbv : v0.heap[w.heap.size]? = some (.cells #[.int .i64 0, .int .i64 0, .int .i64 0, .int .i64 0] 44 (0, 0)) := (hk.block _ (Nat.lt_of_lt_of_le (by omega) HMB.out.size) (by omega)).trans ((HMB.out.block _ (by omega)).trans HBO0.out)
    have hBv : Below w.heap.size w v0 := HBY0.out.trans ((HMB.out.mono (by omega)).trans (hk.toBelow (B := w.heap.size) (fun i e => by omega) (by have := HMB.out.size; omega)))
    obtain ⟨Y1, hY⟩ : ∃ Y, Y = v0.setCell ⟨w3.heap.size, 0, none⟩ (.int .i64 e0) := ⟨_, rfl⟩
    have HDY1 := Lib.hid (show Y1.heap[w3.heap.size]? = some (.cells #[.int .i64 e0, .int .i64 0, .int .i64 0, .int .i64 0] 61 (0, 0)) by rw [hY]; exact Joins.block_setCell (i := 0) hdv _)
    have HBO1 := Lib.hid (show Y1.heap[w.heap.size]? = some (.cells #[.int .i64 0, .int .i64 0, .int .i64 0, .int .i64 0] 44 (0, 0)) by rw [hY, Below.heap_setCell _ _ _ _ (by show w.heap.size ≠ w3.heap.size; omega)]; exact hbv)
    have HBY1 := Lib.hid (show Below w.heap.size w Y1 by rw [hY]; exact hBv.setCell (by simp only; omega) _)
    have HS1 := Lib.hid (show WSt b t S F wb mb nn1 f1 Y1 by
      rw [hY]
      exact hg.st.keep (G := fun i => i = w3.heap.size) (Keeps.setCell (p := ⟨w3.heap.size, 0, none⟩) (Keeps.refl (fun i => i = w3.heap.size) v0) (fun _ => rfl) _) (fun i e => ⟨fun hF => by have := HFL.out _ hF; omega, by omega, by omega⟩))
    have s0 := Joins.cell_of_block hdv 0
    simp at s0
    have s1 := Joins.unfrozen_of_block hdv 0
    have HYE1 := Lib.hid hY
    clear hg hk hdv hbv hBv hY HMB HMM HME HE0
    go_upto_region 14 with fail
    rw [← HYE1.out]
    clear s0 s1 hdW
    go_wp2_with fail
    rw [rounds_succ]
    obtain ⟨M1, hM⟩ : ∃ M, M = Y1.alloc (.map #[] 0) := ⟨_, rfl⟩
    have hbM : Below Y1.heap.size Y1 M1 := by rw [hM]; exact (Below.refl _ _).alloc (Nat.le_refl _) _
    have hmM : M1.heap[Y1.heap.size]? = some (.map #[] 0) := by rw [hM]; exact blk_last Y1 _ rfl
    have hdW : w3.heap.size < Y1.heap.size := lt_of_block HDY1.out
    have hG : GSt b t S F wb mb Y1.heap.size nn1 f1 0 (fun _ => none) 1 M1 := ⟨HS1.out.below hbM, mem_fresh hmM, ⟨fun i v hv => by cases hv⟩, ⟨fun e => by have := HFL.out _ e; omega, by omega, by omega⟩⟩
    have he := edge_any (n + 1) HNB.out b t S F wb mb Y1.heap.size nn1 f1 0 (fun _ => none) 1 T id M1 (by omega) hG ht HD.out HEB.out.symm
    obtain ⟨e1, he1⟩ : ∃ e : Nat, e = edgeT (n + 1) 1 T := ⟨_, rfl⟩
    have heb1 : e1 < 17592186044416 + 1 := by
      have h1 := edge_lt (s := 1) (by omega) HD.out.full HEB.out.symm
      rw [← he1] at h1
      have h2 : 2 ^ (n + 1) ≤ 2 ^ 44 := Nat.pow_le_pow_right (by omega) HNB.out
      omega
    rw [← he1, ← HLV0.out] at he
    rw [show ((1 : Nat) : Int) = 1 from rfl] at he
    have HE1 := Lib.hid he
    have HEE1 := Lib.hid he1
    have HMB := Lib.hid hbM
    have HMM := Lib.hid hmM
    have HME := Lib.hid hM
    clear hbM hmM hG he he1 hM
    go_wp2_with fail
    try rw [← HME.out]
    with_reducible refine HE1.out.mono ?_
    rintro e v1 ⟨rfl, nn2, f2, nm1, g1, hg, hk⟩
    have hdv : v1.heap[w3.heap.size]? = some (.cells #[.int .i64 e0, .int .i64 0, .int .i64 0, .int .i64 0] 61 (0, 0)) := (hk.block _ (Nat.lt_of_lt_of_le hdW HMB.out.size) (by omega)).trans ((HMB.out.block _ hdW).trans HDY1.out)
    have hbv : v1.heap[w.heap.size]? = some (.cells #[.int .i64 0, .int .i64 0, .int .i64 0, .int .i64 0] 44 (0, 0)) := (hk.block _ (Nat.lt_of_lt_of_le (by omega) HMB.out.size) (by omega)).trans ((HMB.out.block _ (by omega)).trans HBO1.out)
    have hBv : Below w.heap.size w v1 := HBY1.out.trans ((HMB.out.mono (by omega)).trans (hk.toBelow (B := w.heap.size) (fun i e => by omega) (by have := HMB.out.size; omega)))
    obtain ⟨Y2, hY⟩ : ∃ Y, Y = v1.setCell ⟨w3.heap.size, 1, none⟩ (.int .i64 e1) := ⟨_, rfl⟩
    have HDY2 := Lib.hid (show Y2.heap[w3.heap.size]? = some (.cells #[.int .i64 e0, .int .i64 e1, .int .i64 0, .int .i64 0] 61 (0, 0)) by rw [hY]; exact Joins.block_setCell (i := 1) hdv _)
    have HBO2 := Lib.hid (show Y2.heap[w.heap.size]? = some (.cells #[.int .i64 0, .int .i64 0, .int .i64 0, .int .i64 0] 44 (0, 0)) by rw [hY, Below.heap_setCell _ _ _ _ (by show w.heap.size ≠ w3.heap.size; omega)]; exact hbv)
    have HBY2 := Lib.hid (show Below w.heap.size w Y2 by rw [hY]; exact hBv.setCell (by simp only; omega) _)
    have HS2 := Lib.hid (show WSt b t S F wb mb nn2 f2 Y2 by
      rw [hY]
      exact hg.st.keep (G := fun i => i = w3.heap.size) (Keeps.setCell (p := ⟨w3.heap.size, 1, none⟩) (Keeps.refl (fun i => i = w3.heap.size) v1) (fun _ => rfl) _) (fun i e => ⟨fun hF => by have := HFL.out _ hF; omega, by omega, by omega⟩))
    have s0 := Joins.cell_of_block hdv 1
    simp at s0
    have s1 := Joins.unfrozen_of_block hdv 1
    have HYE2 := Lib.hid hY
    clear hg hk hdv hbv hBv hY HMB HMM HME HE1
    go_upto_region 14 with fail
    rw [← HYE2.out]
    clear s0 s1 hdW
    go_wp2_with fail
    rw [rounds_succ]
    obtain ⟨M2, hM⟩ : ∃ M, M = Y2.alloc (.map #[] 0) := ⟨_, rfl⟩
    have hbM : Below Y2.heap.size Y2 M2 := by rw [hM]; exact (Below.refl _ _).alloc (Nat.le_refl _) _
    have hmM : M2.heap[Y2.heap.size]? = some (.map #[] 0) := by rw [hM]; exact blk_last Y2 _ rfl
    have hdW : w3.heap.size < Y2.heap.size := lt_of_block HDY2.out
    have hG : GSt b t S F wb mb Y2.heap.size nn2 f2 0 (fun _ => none) 2 M2 := ⟨HS2.out.below hbM, mem_fresh hmM, ⟨fun i v hv => by cases hv⟩, ⟨fun e => by have := HFL.out _ e; omega, by omega, by omega⟩⟩
    have he := edge_any (n + 1) HNB.out b t S F wb mb Y2.heap.size nn2 f2 0 (fun _ => none) 2 T id M2 (by omega) hG ht HD.out HEB.out.symm
    obtain ⟨e2, he2⟩ : ∃ e : Nat, e = edgeT (n + 1) 2 T := ⟨_, rfl⟩
    have heb2 : e2 < 17592186044416 + 1 := by
      have h1 := edge_lt (s := 2) (by omega) HD.out.full HEB.out.symm
      rw [← he2] at h1
      have h2 : 2 ^ (n + 1) ≤ 2 ^ 44 := Nat.pow_le_pow_right (by omega) HNB.out
      omega
    rw [← he2, ← HLV0.out] at he
    rw [show ((2 : Nat) : Int) = 2 from rfl] at he
    have HE2 := Lib.hid he
    have HEE2 := Lib.hid he2
    have HMB := Lib.hid hbM
    have HMM := Lib.hid hmM
    have HME := Lib.hid hM
    clear hbM hmM hG he he2 hM
    go_wp2_with fail
    try rw [← HME.out]
    with_reducible refine HE2.out.mono ?_
    rintro e v2 ⟨rfl, nn3, f3, nm2, g2, hg, hk⟩
    have hdv : v2.heap[w3.heap.size]? = some (.cells #[.int .i64 e0, .int .i64 e1, .int .i64 0, .int .i64 0] 61 (0, 0)) := (hk.block _ (Nat.lt_of_lt_of_le hdW HMB.out.size) (by omega)).trans ((HMB.out.block _ hdW).trans HDY2.out)
    have hbv : v2.heap[w.heap.size]? = some (.cells #[.int .i64 0, .int .i64 0, .int .i64 0, .int .i64 0] 44 (0, 0)) := (hk.block _ (Nat.lt_of_lt_of_le (by omega) HMB.out.size) (by omega)).trans ((HMB.out.block _ (by omega)).trans HBO2.out)
    have hBv : Below w.heap.size w v2 := HBY2.out.trans ((HMB.out.mono (by omega)).trans (hk.toBelow (B := w.heap.size) (fun i e => by omega) (by have := HMB.out.size; omega)))
    obtain ⟨Y3, hY⟩ : ∃ Y, Y = v2.setCell ⟨w3.heap.size, 2, none⟩ (.int .i64 e2) := ⟨_, rfl⟩
    have HDY3 := Lib.hid (show Y3.heap[w3.heap.size]? = some (.cells #[.int .i64 e0, .int .i64 e1, .int .i64 e2, .int .i64 0] 61 (0, 0)) by rw [hY]; exact Joins.block_setCell (i := 2) hdv _)
    have HBO3 := Lib.hid (show Y3.heap[w.heap.size]? = some (.cells #[.int .i64 0, .int .i64 0, .int .i64 0, .int .i64 0] 44 (0, 0)) by rw [hY, Below.heap_setCell _ _ _ _ (by show w.heap.size ≠ w3.heap.size; omega)]; exact hbv)
    have HBY3 := Lib.hid (show Below w.heap.size w Y3 by rw [hY]; exact hBv.setCell (by simp only; omega) _)
    have HS3 := Lib.hid (show WSt b t S F wb mb nn3 f3 Y3 by
      rw [hY]
      exact hg.st.keep (G := fun i => i = w3.heap.size) (Keeps.setCell (p := ⟨w3.heap.size, 2, none⟩) (Keeps.refl (fun i => i = w3.heap.size) v2) (fun _ => rfl) _) (fun i e => ⟨fun hF => by have := HFL.out _ hF; omega, by omega, by omega⟩))
    have s0 := Joins.cell_of_block hdv 2
    simp at s0
    have s1 := Joins.unfrozen_of_block hdv 2
    have HYE3 := Lib.hid hY
    clear hg hk hdv hbv hBv hY HMB HMM HME HE2
    go_upto_region 14 with fail
    rw [← HYE3.out]
    clear s0 s1 hdW
    go_wp2_with fail
    rw [rounds_succ]
    obtain ⟨M3, hM⟩ : ∃ M, M = Y3.alloc (.map #[] 0) := ⟨_, rfl⟩
    have hbM : Below Y3.heap.size Y3 M3 := by rw [hM]; exact (Below.refl _ _).alloc (Nat.le_refl _) _
    have hmM : M3.heap[Y3.heap.size]? = some (.map #[] 0) := by rw [hM]; exact blk_last Y3 _ rfl
    have hdW : w3.heap.size < Y3.heap.size := lt_of_block HDY3.out
    have hG : GSt b t S F wb mb Y3.heap.size nn3 f3 0 (fun _ => none) 3 M3 := ⟨HS3.out.below hbM, mem_fresh hmM, ⟨fun i v hv => by cases hv⟩, ⟨fun e => by have := HFL.out _ e; omega, by omega, by omega⟩⟩
    have he := edge_any (n + 1) HNB.out b t S F wb mb Y3.heap.size nn3 f3 0 (fun _ => none) 3 T id M3 (by omega) hG ht HD.out HEB.out.symm
    obtain ⟨e3, he3⟩ : ∃ e : Nat, e = edgeT (n + 1) 3 T := ⟨_, rfl⟩
    have heb3 : e3 < 17592186044416 + 1 := by
      have h1 := edge_lt (s := 3) (by omega) HD.out.full HEB.out.symm
      rw [← he3] at h1
      have h2 : 2 ^ (n + 1) ≤ 2 ^ 44 := Nat.pow_le_pow_right (by omega) HNB.out
      omega
    rw [← he3, ← HLV0.out] at he
    rw [show ((3 : Nat) : Int) = 3 from rfl] at he
    have HE3 := Lib.hid he
    have HEE3 := Lib.hid he3
    have HMB := Lib.hid hbM
    have HMM := Lib.hid hmM
    have HME := Lib.hid hM
    clear hbM hmM hG he he3 hM
    go_wp2_with fail
    try rw [← HME.out]
    with_reducible refine HE3.out.mono ?_
    rintro e v3 ⟨rfl, nn4, f4, nm3, g3, hg, hk⟩
    have hdv : v3.heap[w3.heap.size]? = some (.cells #[.int .i64 e0, .int .i64 e1, .int .i64 e2, .int .i64 0] 61 (0, 0)) := (hk.block _ (Nat.lt_of_lt_of_le hdW HMB.out.size) (by omega)).trans ((HMB.out.block _ hdW).trans HDY3.out)
    have hbv : v3.heap[w.heap.size]? = some (.cells #[.int .i64 0, .int .i64 0, .int .i64 0, .int .i64 0] 44 (0, 0)) := (hk.block _ (Nat.lt_of_lt_of_le (by omega) HMB.out.size) (by omega)).trans ((HMB.out.block _ (by omega)).trans HBO3.out)
    have hBv : Below w.heap.size w v3 := HBY3.out.trans ((HMB.out.mono (by omega)).trans (hk.toBelow (B := w.heap.size) (fun i e => by omega) (by have := HMB.out.size; omega)))
    obtain ⟨Y4, hY⟩ : ∃ Y, Y = v3.setCell ⟨w3.heap.size, 3, none⟩ (.int .i64 e3) := ⟨_, rfl⟩
    have HDY4 := Lib.hid (show Y4.heap[w3.heap.size]? = some (.cells #[.int .i64 e0, .int .i64 e1, .int .i64 e2, .int .i64 e3] 61 (0, 0)) by rw [hY]; exact Joins.block_setCell (i := 3) hdv _)
    have HBO4 := Lib.hid (show Y4.heap[w.heap.size]? = some (.cells #[.int .i64 0, .int .i64 0, .int .i64 0, .int .i64 0] 44 (0, 0)) by rw [hY, Below.heap_setCell _ _ _ _ (by show w.heap.size ≠ w3.heap.size; omega)]; exact hbv)
    have HBY4 := Lib.hid (show Below w.heap.size w Y4 by rw [hY]; exact hBv.setCell (by simp only; omega) _)
    have HS4 := Lib.hid (show WSt b t S F wb mb nn4 f4 Y4 by
      rw [hY]
      exact hg.st.keep (G := fun i => i = w3.heap.size) (Keeps.setCell (p := ⟨w3.heap.size, 3, none⟩) (Keeps.refl (fun i => i = w3.heap.size) v3) (fun _ => rfl) _) (fun i e => ⟨fun hF => by have := HFL.out _ hF; omega, by omega, by omega⟩))
    have s0 := Joins.cell_of_block hdv 3
    simp at s0
    have s1 := Joins.unfrozen_of_block hdv 3
    have HYE4 := Lib.hid hY
    clear hg hk hdv hbv hBv hY HMB HMM HME HE3
    go_upto_region 14 with fail
    rw [← HYE4.out]
    clear s0 s1 hdW
    go_wp2_with fail
    rw [rounds_succ]
    go_upto_region 15 with fail
    have d0 := Joins.cell_of_block HDY4.out 0
    have d1 := Joins.cell_of_block HDY4.out 1
    have d2 := Joins.cell_of_block HDY4.out 2
    have d3 := Joins.cell_of_block HDY4.out 3
    have r0 := Joins.cell_of_block HBO4.out 0
    have r1 := Joins.cell_of_block HBO4.out 1
    have r2 := Joins.cell_of_block HBO4.out 2
    have r3 := Joins.cell_of_block HBO4.out 3
    have r4 := fun j => Joins.unfrozen_of_block HBO4.out j
    simp at d0 d1 d2 d3 r0 r1 r2 r3
    go_wp2_with fail
    with_reducible refine (HHF.out _).mono ?_
    rintro e w9 ⟨rfl, rfl⟩
    have HVV := Lib.hid (show boxV (n + 1) T = .agg #[.int .i64 ((e2 : Int) - H), .int .i64 ((e0 : Int) - H), .int .i64 ((H : Int) - 1 - e3), .int .i64 ((H : Int) - 1 - e1)] by
      unfold boxV
      rw [← HEB.out, if_neg (by decide), ← HEE0.out, ← HEE1.out, ← HEE2.out, ← HEE3.out, show n + 1 - 1 = n from rfl, ← HHE.out])
    obtain ⟨x0, hx0⟩ : ∃ x, x = (e2 : Int) - H := ⟨_, rfl⟩
    obtain ⟨y0, hy0⟩ : ∃ x, x = (e0 : Int) - H := ⟨_, rfl⟩
    obtain ⟨x1, hx1⟩ : ∃ x, x = (H : Int) - 1 - e3 := ⟨_, rfl⟩
    obtain ⟨y1, hy1⟩ : ∃ x, x = (H : Int) - 1 - e1 := ⟨_, rfl⟩
    rw [← hx0, ← hy0, ← hx1, ← hy1] at HVV
    have hb0 : (e2 : Int) - H = x0 := hx0.symm
    have hb1 : (e0 : Int) - H = y0 := hy0.symm
    have hb2 : (H : Int) - 1 - e3 = x1 := hx1.symm
    have hb3 : (H : Int) - 1 - e1 = y1 := hy1.symm
    have hw0 : IntKind.i64.wrap x0 = x0 := by rw [IntKind.wrap_i64]; omega
    have hw1 : IntKind.i64.wrap y0 = y0 := by rw [IntKind.wrap_i64]; omega
    have hw2 : IntKind.i64.wrap x1 = x1 := by rw [IntKind.wrap_i64]; omega
    have hw3 : IntKind.i64.wrap y1 = y1 := by rw [IntKind.wrap_i64]; omega
    have hw4 : IntKind.i64.wrap ((H : Int) - 1) = (H : Int) - 1 := by rw [IntKind.wrap_i64]; omega
    clear hx0 hy0 hx1 hy1
    go_wp2_with fail
    generalize hZ : (((w9.setCell ⟨w.heap.size, 0, none⟩ (.int .i64 x0)).setCell ⟨w.heap.size, 1, none⟩ (.int .i64 y0)).setCell ⟨w.heap.size, 2, none⟩ (.int .i64 x1)).setCell ⟨w.heap.size, 3, none⟩ (.int .i64 y1) = Z
    have hZb : Z.heap[w.heap.size]? = some (.cells #[.int .i64 x0, .int .i64 y0, .int .i64 x1, .int .i64 y1] 44 (0, 0)) := by rw [← hZ]; exact set4 HBO4.out
    have z0 := Joins.cell_of_block hZb 0
    have z1 := Joins.cell_of_block hZb 1
    have z2 := Joins.cell_of_block hZb 2
    have z3 := Joins.cell_of_block hZb 3
    simp at z0 z1 z2 z3
    refine bodyPost_ret (v := .tuple #[.agg #[.int .i64 x0, .int .i64 y0, .int .i64 x1, .int .i64 y1], .bool true, .int .i64 0]) (by simp [results, Try.results21, go_sem, z0, z1, z2, z3]) rfl ⟨?_, ?_⟩
    · rw [HVV.out, ← HEB.out]; rfl
    · rw [← hZ]
      exact (((HBY4.out.setCell (Nat.le_refl _) _).setCell (Nat.le_refl _) _).setCell (Nat.le_refl _) _).setCell (Nat.le_refl _) _
end Go.Proofs.Ytdmamecfmfhlmaa
