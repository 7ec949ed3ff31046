/-
  quad's edge.
-/
import Derived.Test.YtdmamecfmfhlmaaZQuadReadsQLook
namespace Go.Proofs.Ytdmamecfmfhlmaa
set_option maxRecDepth 100000
open Go.RowKit

theorem near_lt (s : Nat) : (nearK s).1 < 4 ∧ (nearK s).2 < 4 ∧ (farK s).1 < 4 ∧ (farK s).2 < 4 := by
  match s with
  | 0 => decide
  | 1 => decide
  | 2 => decide
  | _ + 3 =>
    show (1 : Nat) < 4 ∧ 3 < 4 ∧ 0 < 4 ∧ 2 < 4
    decide
theorem edge_zero : EdgeOk 0 := by
  intro b t S F wb mb mm nn f nm g s T id w hs h ht hd he
  have HG := Lib.hid h
  clear h hd he
  go_enter Try.func53, Try.ntmps53
  go_wp2_with fail
  go_ret
  have hb : Below w.heap.size w ((((w.alloc (.cells #[.pointer (some ⟨wb, 0, none⟩)] 92 (0, 0))).alloc (.cells #[.int .i64 0] 3 (0, 0))).alloc (.cells #[.int .i64 s] 3 (0, 0))).alloc (.cells #[.map (some mm)] 94 (0, 0))) := ((((Below.refl _ _).alloc (Nat.le_refl _) _).alloc (by simp) _).alloc (by first | (simp; done) | (simp; omega)) _).alloc (by first | (simp; done) | (simp; omega)) _
  exact ⟨rfl, nn, f, nm, g, HG.out.below hb, Keeps.of_below hb⟩
theorem kids_den {S : ArS} {t n : Nat} {Ta Tb Tc Td : Tree} {q : Four} (h : Den S.L t n Ta q.1 ∧ Den S.L t n Tb q.2.1 ∧ Den S.L t n Tc q.2.2.1 ∧ Den S.L t n Td q.2.2.2) : ∀ k, k < 4 → Den S.L t n (kidT k (.node Ta Tb Tc Td)) (qAt q k) := fun k hk => by
  rcases (show k = 0 ∨ k = 1 ∨ k = 2 ∨ k = 3 by omega) with rfl | rfl | rfl | rfl
  · exact h.1
  · exact h.2.1
  · exact h.2.2.1
  · exact h.2.2.2
def sideV (a b c d e f g h : Int) : Value := .agg #[.int .i64 a, .int .i64 b, .int .i64 c, .int .i64 d, .int .i64 e, .int .i64 f, .int .i64 g, .int .i64 h]
theorem near_index {s : Nat} (hs : s < 4) : ∀ W, (Instr.index 126 (sideV 0 1 2 3 0 2 1 3) (.int .i64 s)).run Try.prog W = .ok (.agg #[.int .i64 (nearK s).1, .int .i64 (nearK s).2]) W := fun W => by
  rcases (show s = 0 ∨ s = 1 ∨ s = 2 ∨ s = 3 by omega) with rfl | rfl | rfl | rfl <;> kernel_rfl
theorem far_index {s : Nat} (hs : s < 4) : ∀ W, (Instr.index 126 (sideV 2 3 0 1 1 3 0 2) (.int .i64 s)).run Try.prog W = .ok (.agg #[.int .i64 (farK s).1, .int .i64 (farK s).2]) W := fun W => by
  rcases (show s = 0 ∨ s = 1 ∨ s = 2 ∨ s = 3 by omega) with rfl | rfl | rfl | rfl <;> kernel_rfl
theorem GSt.kids {b t : Nat} {S : ArS} {F : Nat → Prop} {wb mb mm nn nm s : Nat} {f g : Int → Option Value} {w w' : World} (h : GSt b t S F wb mb mm nn f nm g s w) (hh : HandAt wb b t 0 96 (some (.map (some mb))) w') (hk : Keeps (fun i => i = wb) w w') : GSt b t S F wb mb mm nn f nm g s w' :=
  { h with
    st := h.st.hands hh hk
    mp := h.mp.keep (hk.block mm h.mp.lt h.dm.2.1) }
theorem GSt.stored {b t : Nat} {S : ArS} {F : Nat → Prop} {wb mb mm nn nm s ev : Nat} {f g : Int → Option Value} {w w' : World} (h : GSt b t S F wb mb mm nn f nm g s w) {id : Int} {n : Nat} {T : Tree} (hd : Den S.L t n T id) (he : ev = edgeT n s T) {nm' : Nat} (hm : MapOf intV I64 w' mm nm' (updM g id (.int .i64 (ev : Int)))) (hk : Keeps (fun i => i = mm) w w') : GSt b t S F wb mb mm nn f nm' (updM g id (.int .i64 (ev : Int))) s w' :=
  { h with
    st := h.st.keep hk (fun i e => by rw [e]; exact h.dm)
    mp := hm
    mo := ⟨fun i v hv => by
      by_cases e : i = id
      · rw [e, updM_same] at hv
        cases hv
        exact ⟨n, T, by rw [e]; exact hd, by rw [he]⟩
      · rw [updM_other g _ e] at hv
        exact h.mo.all i v hv⟩ }
set_option maxHeartbeats 8000000 in
set_option maxRecDepth 100000 in
theorem edge_succ (n : Nat) (hn : n + 1 ≤ 44) (IH : EdgeOk n) : EdgeOk (n + 1) := by
  intro b t S F wb mb mm nn f nm g s T id w hs h ht hd he
  have h64 := hd.i64 h.st.ar.ok
  obtain ⟨W1, hW1⟩ : ∃ W1, W1 = (((w.alloc (.cells #[.pointer (some ⟨wb, 0, none⟩)] 92 (0, 0))).alloc (.cells #[.int .i64 ((n + 1 : Nat) : Int)] 3 (0, 0))).alloc (.cells #[.int .i64 s] 3 (0, 0))).alloc (.cells #[.map (some mm)] 94 (0, 0)) := ⟨_, rfl⟩
  have hb1 : Below w.heap.size w W1 := by rw [hW1]; exact ((((Below.refl _ _).alloc (Nat.le_refl _) _).alloc (by simp) _).alloc (by first | (simp; done) | (simp; omega)) _).alloc (by first | (simp; done) | (simp; omega)) _
  have z1 : W1.heap.size = w.heap.size + 4 := by rw [hW1]; simp
  have k5 : W1.heap[w.heap.size]? = some (.cells #[.pointer (some ⟨wb, 0, none⟩)] 92 (0, 0)) := by rw [hW1, Below.heap_alloc _ _ _ (by first | (simp; done) | (simp; omega)), Below.heap_alloc _ _ _ (by first | (simp; done) | (simp; omega)), Below.heap_alloc _ _ _ (by simp)]; exact blk_last w _ rfl
  have k7 : W1.heap[w.heap.size + 1]? = some (.cells #[.int .i64 ((n + 1 : Nat) : Int)] 3 (0, 0)) := by rw [hW1, Below.heap_alloc _ _ _ (by first | (simp; done) | (simp; omega)), Below.heap_alloc _ _ _ (by simp)]; exact blk_last _ _ (by simp)
  have k8 : W1.heap[w.heap.size + 2]? = some (.cells #[.int .i64 s] 3 (0, 0)) := by rw [hW1, Below.heap_alloc _ _ _ (by simp)]; exact blk_last _ _ (by simp)
  have k9 : W1.heap[w.heap.size + 3]? = some (.cells #[.map (some mm)] 94 (0, 0)) := by rw [hW1]; exact blk_last _ _ (by simp)
  have hG1 := h.below hb1
  have hlook := hG1.mp.look_ok int_keyedV (t := 94) (e := 3) (z := .int .i64 0) Try.underlying94 (fun u => by kernel_rfl) h64
  obtain ⟨Ta, Tb, Tc, Td, rfl⟩ : ∃ a b c d, T = .node a b c d := by
    match T, hd with
    | .node a b c d, _ => exact ⟨a, b, c, d, rfl⟩
  have hfull := hd.full
  have hd0 := hd
  obtain ⟨h2, x, h3, h4, h5, h6, xa, xb, xc, xd⟩ := hd0
  have HG := Lib.hid h
  have HG1 := Lib.hid hG1
  have HB1 := Lib.hid hb1
  have HW1 := Lib.hid hW1
  have HD := Lib.hid hd
  have c5 := Joins.cell_of_block k5 0
  have c7 := Joins.cell_of_block k7 0
  have c8 := Joins.cell_of_block k8 0
  have c9 := Joins.cell_of_block k9 0
  simp at c5 c7 c8 c9
  obtain ⟨lv, hlv⟩ : ∃ lv : Nat, lv = n + 1 := ⟨_, rfl⟩
  have hlI : ((n : Int) + 1) = (lv : Int) := by omega
  have hlI2 : (((n + 1 : Nat)) : Int) = (lv : Int) := by omega
  have hlz : ((lv : Int) == 0) = false := by simp; omega
  have hlz2 : (lv == 0) = false := by simp; omega
  have hlm : (lv : Int) - 1 = (n : Int) := by omega
  rw [hlI2] at k7
  first | rw [hlI] at c7 | rw [hlI2] at c7
  rw [hlI2] at HW1 ⊢
  cases hg : g id with
  | some v =>
    obtain ⟨m, U, hU, rfl⟩ := hG1.mo.all id v hg
    obtain ⟨hm, rfl⟩ := Den.level h.st.ar.ok hd hU
    subst hm
    rw [hg] at hlook
    simp only [Option.getD_some, Option.isSome_some] at hlook
    unfold intV at hlook
    obtain ⟨ev, hev⟩ : ∃ ev : Nat, ev = edgeT (n + 1) s (.node Ta Tb Tc Td) := ⟨_, rfl⟩
    rw [← hev] at hlook ⊢
    clear h hG1 hb1 hW1 hd hg hU h64 h2 h3 h4 h5 h6 xa xb xc xd hev hlv hlI hlI2 k5 k7 k8 k9 he hfull IH
    go_enter Try.func53, Try.ntmps53
    go_upto_region 1 with fail
    rw [← HW1.out]
    go_wp2_with fail
    go_ret
    exact ⟨rfl, nn, f, nm, g, HG1.out, Keeps.of_below HB1.out⟩
  | none =>
    rw [hg] at hlook
    simp only [Option.getD_none, Option.isSome_none] at hlook
    unfold intV at hlook
    have hni := near_index hs
    have hfi := far_index hs
    unfold sideV at hni hfi
    have HLV := Lib.hid hlv
    have H64 := Lib.hid h64
    clear hG1 hb1 hW1 hd hg h64 hlv hlI hlI2 he
    go_enter Try.func53, Try.ntmps53
    go_upto_region 1 with fail
    rw [← HW1.out]
    go_upto_region 8 with fail
    obtain ⟨n0, hn0⟩ : ∃ n0, n0 = (nearK s).1 := ⟨_, rfl⟩
    obtain ⟨n1, hn1⟩ : ∃ n1, n1 = (nearK s).2 := ⟨_, rfl⟩
    obtain ⟨f0, hf0⟩ : ∃ f0, f0 = (farK s).1 := ⟨_, rfl⟩
    obtain ⟨f1, hf1⟩ : ∃ f1, f1 = (farK s).2 := ⟨_, rfl⟩
    rw [← hn0, ← hn1, ← hf0, ← hf1]
    have hnl := near_lt s
    rw [← hn0, ← hn1, ← hf0, ← hf1] at hnl
    obtain ⟨hnl0, hnl1, hnl2, hnl3⟩ := hnl
    have HNF := Lib.hid (show n0 = (nearK s).1 ∧ n1 = (nearK s).2 ∧ f0 = (farK s).1 ∧ f1 = (farK s).2 from ⟨hn0, hn1, hf0, hf1⟩)
    obtain ⟨X2, hX2⟩ : ∃ X2, X2 = (W1.alloc (.cells #[.int .i64 n0, .int .i64 n1] 125 (0, 0))).alloc (.cells #[.int .i64 f0, .int .i64 f1] 125 (0, 0)) := ⟨_, rfl⟩
    have hb2 : Below W1.heap.size W1 X2 := by rw [hX2]; exact ((Below.refl _ _).alloc (Nat.le_refl _) _).alloc (by simp) _
    have z2 : X2.heap.size = W1.heap.size + 2 := by rw [hX2]; simp
    have kn : X2.heap[W1.heap.size]? = some (.cells #[.int .i64 n0, .int .i64 n1] 125 (0, 0)) := by rw [hX2, Below.heap_alloc _ _ _ (by simp)]; exact blk_last _ _ rfl
    have kf : X2.heap[W1.heap.size + 1]? = some (.cells #[.int .i64 f0, .int .i64 f1] 125 (0, 0)) := by rw [hX2]; exact blk_last _ _ (by simp)
    have hG2 := HG1.out.below hb2
    have hkd : kidsA S t id = ((x.a, x.b, x.c, x.d), 0) := by
      obtain ⟨i, rfl⟩ : ∃ i : Nat, id = i := ⟨id.toNat, by omega⟩
      rw [Int.toNat_natCast] at h3
      exact kidsA_yes ht HD.out.owns (by omega) h3
    have hkids := hkids_any wb b t 0 96 (some (.map (some mb))) S F id X2 hG2.st.ar hG2.st.hand hG2.st.d1.1
    rw [if_pos rfl, if_pos rfl, hkd] at hkids
    obtain ⟨q0, hq0⟩ : ∃ q, q = x.a := ⟨_, rfl⟩
    obtain ⟨q1, hq1⟩ : ∃ q, q = x.b := ⟨_, rfl⟩
    obtain ⟨q2, hq2⟩ : ∃ q, q = x.c := ⟨_, rfl⟩
    obtain ⟨q3, hq3⟩ : ∃ q, q = x.d := ⟨_, rfl⟩
    rw [← hq0] at xa hkids
    rw [← hq1] at xb hkids
    rw [← hq2] at xc hkids
    rw [← hq3] at xd hkids
    unfold fourV at hkids
    simp only at hkids
    have HDK := Lib.hid (kids_den (q := (q0, q1, q2, q3)) ⟨xa, xb, xc, xd⟩)
    have HKI := Lib.hid hkids
    have e5 := (World.cell?_of_block (hb2.block _ (by simp only; omega))).trans c5
    have HX2 := Lib.hid hX2
    have HB2 := Lib.hid hb2
    have HKN := Lib.hid kn
    have HKF := Lib.hid kf
    have HK5 := Lib.hid k5
    have HK7 := Lib.hid k7
    have HK8 := Lib.hid k8
    have HK9 := Lib.hid k9
    have HZ1 := Lib.hid z1
    have HZ2 := Lib.hid z2
    have HFU := Lib.hid hfull
    have HIH := Lib.hid IH
    clear hn0 hn1 hf0 hf1 hX2 hb2 z2 kn kf hG2 hkd hkids hq0 hq1 hq2 hq3 xa xb xc xd h2 h3 h4 h5 h6 hni hfi k5 k7 k8 k9 z1 IH hfull hlook c7 c8 c9 c5
    rw [← HX2.out]
    go_wp2_with fail
    with_reducible refine HKI.out.mono ?_
    rintro e w3 ⟨rfl, hh3, hk3⟩
    go_upto_region 10 with fail
    refine wp_named ?_
    intro W9 hW9
    obtain ⟨Y, hY⟩ : ∃ Y, Y = w3.alloc (.cells #[.int .i64 q0, .int .i64 q1, .int .i64 q2, .int .i64 q3] 61 (0, 0)) := ⟨_, rfl⟩
    rw [← hY] at hW9
    have hbY : Below w3.heap.size w3 Y := by rw [hY]; exact (Below.refl _ _).alloc (Nat.le_refl _) _
    have zY : Y.heap.size = w3.heap.size + 1 := by rw [hY]; simp
    have hb9 : Below w3.heap.size w3 W9 := by rw [hW9]; exact (hbY.alloc (by omega) _).alloc (by simp; omega) _
    have kq : W9.heap[w3.heap.size]? = some (.cells #[.int .i64 q0, .int .i64 q1, .int .i64 q2, .int .i64 q3] 61 (0, 0)) := by rw [hW9, Below.heap_alloc _ _ _ (by simp; omega), Below.heap_alloc _ _ _ (by omega), hY]; exact blk_last _ _ rfl
    have k16 : W9.heap[w3.heap.size + 1]? = some (.cells #[.int .i64 0] 3 (0, 0)) := by rw [hW9, Below.heap_alloc _ _ _ (by simp; omega)]; exact blk_last _ _ zY.symm
    have k17 : W9.heap[w3.heap.size + 1 + 1]? = some (.cells #[.bool false] 4 (0, 0)) := by rw [hW9]; exact blk_last _ _ (by simp; omega)
    have hz3 := hk3.size
    have z1 := HZ1.out
    have z2 := HZ2.out
    have hwl : wb < w.heap.size ∧ mb < w.heap.size ∧ mm < w.heap.size := ⟨HG.out.st.hand.lt, HG.out.st.map.lt, HG.out.mp.lt⟩
    have hblk : ∀ i, i < X2.heap.size → i ≠ wb → W9.heap[i]? = X2.heap[i]? := fun i h1 h2 => (hb9.block i (by omega)).trans (hk3.block i h1 h2)
    have hblk1 : ∀ i, i < W1.heap.size → i ≠ wb → W9.heap[i]? = W1.heap[i]? := fun i h1 h2 => (hblk i (by omega) h2).trans (HB2.out.block i h1)
    have kn9 : W9.heap[W1.heap.size]? = _ := (hblk _ (by omega) (by omega)).trans HKN.out
    have kf9 : W9.heap[W1.heap.size + 1]? = _ := (hblk _ (by omega) (by omega)).trans HKF.out
    rw [HZ1.out] at kn9 kf9
    have hc5 := Joins.cell_of_block ((hblk1 w.heap.size (by omega) (by omega)).trans HK5.out) 0
    have hc7 := Joins.cell_of_block ((hblk1 (w.heap.size + 1) (by omega) (by omega)).trans HK7.out) 0
    have hc8 := Joins.cell_of_block ((hblk1 (w.heap.size + 2) (by omega) (by omega)).trans HK8.out) 0
    have hc9 := Joins.cell_of_block ((hblk1 (w.heap.size + 3) (by omega) (by omega)).trans HK9.out) 0
    simp at hc5 hc7 hc8 hc9
    have hG9 : GSt b t S F wb mb mm nn f nm g s W9 := ((HG1.out.below HB2.out).kids hh3 hk3).below hb9
    have hL9 : LSt w.heap.size F wb mb mm (q0, q1, q2, q3) (n + 1) s w.heap.size (w.heap.size + 1) (w.heap.size + 1 + 1) (w.heap.size + 1 + 1 + 1) w3.heap.size (w3.heap.size + 1) (w3.heap.size + 1 + 1) none W9 :=
      ⟨hc5, by rw [hc7, ← HLV.out], hc8, hc9, kq, k16, k17, by omega, hwl, HG.out.st.ar.lt⟩
    have hK9 : Keeps (fun i => i = wb ∨ i = mb ∨ i = mm) w W9 := ((Keeps.of_below (HB1.out.trans (HB2.out.mono HB1.out.size))).trans (hk3.mono (G := fun i => i = wb ∨ i = mb ∨ i = mm) fun i _ e => .inl e) (fun _ _ e => e)).below hb9
    have hlk := look_any n hn HIH.out b t S F wb mb mm nn f nm g s (.node Ta Tb Tc Td) w.heap.size (q0, q1, q2, q3) w.heap.size (w.heap.size + 1) (w.heap.size + 1 + 1) (w.heap.size + 1 + 1 + 1) w3.heap.size (w3.heap.size + 1) (w3.heap.size + 1 + 1) none n0 n1 0 W9 hs hnl0 hnl1 (by omega) hG9 hL9 ht HFU.out HDK.out
    rw [show ((0 : Nat) : Int) = 0 from rfl] at hlk
    have HLK := Lib.hid hlk
    have n0c := Joins.cell_of_block kn9 0
    have n1c := Joins.cell_of_block kn9 1
    simp at n0c n1c
    have HKF9 := Lib.hid kf9
    have HK9' := Lib.hid hK9
    have HWL := Lib.hid hwl
    have HZZ := Lib.hid (show w.heap.size + 6 ≤ w3.heap.size ∧ W1.heap.size = w.heap.size + 4 from by omega)
    clear hY hbY zY hb9 kq k16 k17 hz3 z1 z2 hwl hblk hblk1 kn9 kf9 hc5 hc7 hc8 hc9 hG9 hL9 hK9 hlk hh3 hk3 hW9 e5
    go_wp2_with fail
    with_reducible refine HLK.out.mono ?_
    rintro e w4 ⟨rfl, nn4, f4, nm4, g4, hG4, hL4, hK4⟩
    obtain ⟨o, ho⟩ : ∃ o, o = lookT (edgeT n s) 0 (kidT n1 (.node Ta Tb Tc Td)) (lookT (edgeT n s) 0 (kidT n0 (.node Ta Tb Tc Td)) none) := ⟨_, rfl⟩
    rw [← ho] at hL4
    have HG4 := Lib.hid hG4
    have HL4 := Lib.hid hL4
    have HK4 := Lib.hid (HK9'.out.trans hK4 (fun i hi e => by
      have := HZZ.out
      rcases e with e | e | e | e | e
      · exact .inl e
      · exact .inr (.inl e)
      · exact .inr (.inr e)
      · omega
      · omega))
    have HKK4 := Lib.hid hK4
    have HO := Lib.hid ho
    have g17 := Joins.cell_of_block hL4.k17 0
    simp at g17
    clear hG4 hL4 hK4 ho n0c n1c
    cases o with
    | some m =>
      obtain ⟨ev, hev⟩ : ∃ ev : Nat, ev = edgeT (n + 1) s (.node Ta Tb Tc Td) := ⟨_, rfl⟩
      have HEV := Lib.hid hev
      have HEO := Lib.hid (show m = ev by rw [hev, edgeT, ← HNF.out.1, ← HNF.out.2.1, ← HO.out])
      clear hev
      go_upto_region 14 with fail
      obtain ⟨st, W1', hen1, hen2, hen3, hen4, hen5⟩ := MapOf.entry int_keyedV (t := 94) (e := 3) (z := .int .i64 0) Try.underlying94 (fun u => by kernel_rfl) HG4.out.mp H64.out
      obtain ⟨W5, hW5a, hW5b, hM5, hK5, hZ5⟩ := hen5 (.int .i64 (ev : Int))
      unfold intV at hW5b
      have HGF := Lib.hid (HG4.out.stored HD.out HEV.out hM5 hK5)
      have HLF := Lib.hid (HL4.out.keep hK5 (fun i e => by have := HL4.out.low; omega))
      have HKF := Lib.hid (HK4.out.trans hK5 (fun i _ e => .inr (.inr e)))
      have k9 := HL4.out.k9
      have k16 := Joins.cell_of_block HL4.out.k16 0
      have k16' := Joins.cell_of_block HLF.out.k16 0
      simp at k16 k16'
      rw [HEO.out] at k16 k16'
      clear hen1 hen2 hen3 hen4 hen5 hW5a hM5 hK5 hZ5
      go_wp2_with fail
      go_ret
      exact ⟨by rw [← HEV.out]; rfl, _, _, _, _, HGF.out, HKF.out⟩
    | none =>
      obtain ⟨p, hp⟩ : ∃ p : Nat, p = 2 ^ n := ⟨_, rfl⟩
      have hpI : (2 : Int) ^ n = (p : Int) := by rw [hp, Int.natCast_pow]; rfl
      have hpb : p ≤ 17592186044416 := by
        have : 2 ^ n ≤ 2 ^ 44 := Nat.pow_le_pow_right (by omega) (by omega)
        omega
      have hwr : IntKind.i64.wrap (2 ^ n) = (p : Int) := by rw [hpI, IntKind.wrap_i64]; omega
      have hlk := look_any n hn HIH.out b t S F wb mb mm nn4 f4 nm4 g4 s (.node Ta Tb Tc Td) w.heap.size (q0, q1, q2, q3) w.heap.size (w.heap.size + 1) (w.heap.size + 1 + 1) (w.heap.size + 1 + 1 + 1) w3.heap.size (w3.heap.size + 1) (w3.heap.size + 1 + 1) none f0 f1 p w4 hs hnl2 hnl3 hpb HG4.out HL4.out ht HFU.out HDK.out
      have HLK2 := Lib.hid hlk
      have kf4 := (HKK4.out.block (w.heap.size + 4 + 1) (lt_of_block HKF9.out) (by have := HZZ.out; have := HWL.out; omega)).trans HKF9.out
      have f0c := Joins.cell_of_block kf4 0
      have f1c := Joins.cell_of_block kf4 1
      simp at f0c f1c
      have g7 := HL4.out.k7
      rw [← HLV.out] at g7
      have HPE := Lib.hid hp
      clear hlk kf4 hp hpI
      go_wp2_with fail
      with_reducible refine HLK2.out.mono ?_
      rintro e w5 ⟨rfl, nn5, f5, nm5, g5, hG5, hL5, hK5⟩
      obtain ⟨o2, ho2⟩ : ∃ o, o = lookT (edgeT n s) p (kidT f1 (.node Ta Tb Tc Td)) (lookT (edgeT n s) p (kidT f0 (.node Ta Tb Tc Td)) none) := ⟨_, rfl⟩
      rw [← ho2] at hL5
      have HG5 := Lib.hid hG5
      have HL5 := Lib.hid hL5
      have HK5 := Lib.hid (HK4.out.trans hK5 (fun i hi e => by
        have := HZZ.out
        rcases e with e | e | e | e | e
        · exact .inl e
        · exact .inr (.inl e)
        · exact .inr (.inr e)
        · omega
        · omega))
      obtain ⟨ev, hev⟩ : ∃ ev : Nat, ev = edgeT (n + 1) s (.node Ta Tb Tc Td) := ⟨_, rfl⟩
      have HEV := Lib.hid hev
      have HEO := Lib.hid (show o2.getD 0 = ev by rw [hev, edgeT, ← HNF.out.1, ← HNF.out.2.1, ← HO.out, ← HNF.out.2.2.1, ← HNF.out.2.2.2, ← HPE.out, ← ho2])
      clear hG5 hL5 hK5 ho2 hev f0c f1c g7 g17
      go_upto_region 14 with fail
      obtain ⟨st, W1', hen1, hen2, hen3, hen4, hen5⟩ := MapOf.entry int_keyedV (t := 94) (e := 3) (z := .int .i64 0) Try.underlying94 (fun u => by kernel_rfl) HG5.out.mp H64.out
      obtain ⟨W5, hW5a, hW5b, hM5, hK5, hZ5⟩ := hen5 (.int .i64 (ev : Int))
      unfold intV at hW5b
      have HGF := Lib.hid (HG5.out.stored HD.out HEV.out hM5 hK5)
      have HLF := Lib.hid (HL5.out.keep hK5 (fun i e => by have := HL5.out.low; omega))
      have HKF := Lib.hid (HK5.out.trans hK5 (fun i _ e => .inr (.inr e)))
      have k9 := HL5.out.k9
      have k16 := Joins.cell_of_block HL5.out.k16 0
      have k16' := Joins.cell_of_block HLF.out.k16 0
      simp at k16 k16'
      rw [HEO.out] at k16 k16'
      clear hen1 hen2 hen3 hen4 hen5 hW5a hM5 hK5 hZ5
      go_wp2_with fail
      go_ret
      exact ⟨by rw [← HEV.out]; rfl, _, _, _, _, HGF.out, HKF.out⟩
theorem edge_any : ∀ n, n ≤ 44 → EdgeOk n
  | 0, _ => edge_zero
  | n + 1, h => edge_succ n h (edge_any n (by omega))
end Go.Proofs.Ytdmamecfmfhlmaa
