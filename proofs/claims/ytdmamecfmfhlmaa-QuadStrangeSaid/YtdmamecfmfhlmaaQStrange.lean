/-
  quad's functions at squares that are not one's own, or of level 0.
-/
import Derived.Test.YtdmamecfmfhlmaaQCountF
namespace Go.Proofs.Ytdmamecfmfhlmaa
set_option maxRecDepth 100000
open Go.RowKit

section
variable (b t : Nat) (S : ArS) (F : Nat → Prop) (id er : Int) (w : World)
set_option maxHeartbeats 1000000 in
theorem cells_err (h : IsAr b S w F) (hl : levelA S t id = (0, er)) (he : er ≠ 0) : Calls Try.prog 15 #[.pointer (some ⟨b, 0, none⟩), .int .i64 t, .int .i64 id] w fun e w' => e = .returned (.tuple #[.slice none 0 0, .int .i64 er]) ∧ Below w.heap.size w w' := by
  have HW := Lib.hid (walk_any b t w)
  have HI := Lib.hid h
  have HFL := Lib.hid h.lt
  have HL := Lib.hid hl
  have g1 : (er == 0) = false := by simpa using he
  have g2 : (er != 0) = true := by simpa using he
  clear h hl he
  go_enter Try.func15, Try.ntmps15
  go_wp2_with fail
  with_reducible refine HW.out.mono ?_
  rintro e w1 ⟨rfl, hb1, hm1, hz1, hh1⟩
  have HLV := Lib.hid (hlevel_any (w.heap.size + 1) b t 0 96 (some (.map (some w.heap.size))) S F id w1 (HI.out.below hb1) hh1 (fun e => by have := HFL.out _ e; omega))
  rw [if_pos rfl, if_pos rfl, HL.out] at HLV
  have HB1 := Lib.hid hb1
  clear hb1 hm1 hh1
  go_wp2_with fail
  with_reducible refine HLV.out.mono ?_
  rintro e w7 ⟨rfl, hh7, hk7⟩
  have c2 := hh7.c2
  have HB2 := Lib.hid (show Below w.heap.size w w7 from HB1.out.trans (hk7.toBelow (B := w.heap.size) (fun i e => by omega) HB1.out.size))
  clear hh7 hk7 hz1
  go_wp2_with fail
  go_region
  go_wp2_with fail
  go_ret2
  exact ⟨rfl, HB2.out.drew⟩
set_option maxHeartbeats 1000000 in
theorem cells_flat (h : IsAr b S w F) (hl : levelA S t id = (0, 0)) : Calls Try.prog 15 #[.pointer (some ⟨b, 0, none⟩), .int .i64 t, .int .i64 id] w fun e w' => e = .returned (.tuple #[.slice none 0 0, .int .i64 8]) ∧ Below w.heap.size w w' := by
  have HW := Lib.hid (walk_any b t w)
  have HI := Lib.hid h
  have HFL := Lib.hid h.lt
  have HL := Lib.hid hl
  clear h hl
  go_enter Try.func15, Try.ntmps15
  go_wp2_with fail
  with_reducible refine HW.out.mono ?_
  rintro e w1 ⟨rfl, hb1, hm1, hz1, hh1⟩
  have HLV := Lib.hid (hlevel_any (w.heap.size + 1) b t 0 96 (some (.map (some w.heap.size))) S F id w1 (HI.out.below hb1) hh1 (fun e => by have := HFL.out _ e; omega))
  rw [if_pos rfl, if_pos rfl, HL.out] at HLV
  have HB1 := Lib.hid hb1
  clear hb1 hm1 hh1
  go_wp2_with fail
  with_reducible refine HLV.out.mono ?_
  rintro e w7 ⟨rfl, hh7, hk7⟩
  have c2 := hh7.c2
  have HB2 := Lib.hid (show Below w.heap.size w w7 from HB1.out.trans (hk7.toBelow (B := w.heap.size) (fun i e => by omega) HB1.out.size))
  clear hh7 hk7 hz1
  go_wp2_with fail
  go_ret2
  exact ⟨rfl, HB2.out⟩
set_option maxHeartbeats 1000000 in
theorem peel_err (h : IsAr b S w F) (hl : levelA S t id = (0, er)) (he : er ≠ 0) : Calls Try.prog 24 #[.pointer (some ⟨b, 0, none⟩), .int .i64 t, .int .i64 id] w fun e w' => e = .returned (.tuple #[.int .i64 0, .int .i64 er]) ∧ Below w.heap.size w w' := by
  have HW := Lib.hid (walk_any b t w)
  have HI := Lib.hid h
  have HFL := Lib.hid h.lt
  have HL := Lib.hid hl
  have g1 : (er == 0) = false := by simpa using he
  have g2 : (er != 0) = true := by simpa using he
  clear h hl he
  go_enter Try.func24, Try.ntmps24
  go_wp2_with fail
  with_reducible refine HW.out.mono ?_
  rintro e w1 ⟨rfl, hb1, hm1, hz1, hh1⟩
  have HLV := Lib.hid (hlevel_any (w.heap.size + 1) b t 0 96 (some (.map (some w.heap.size))) S F id w1 (HI.out.below hb1) hh1 (fun e => by have := HFL.out _ e; omega))
  rw [if_pos rfl, if_pos rfl, HL.out] at HLV
  have HB1 := Lib.hid hb1
  clear hb1 hm1 hh1
  go_wp2_with fail
  with_reducible refine HLV.out.mono ?_
  rintro e w7 ⟨rfl, hh7, hk7⟩
  have c2 := hh7.c2
  have HB2 := Lib.hid (show Below w.heap.size w w7 from HB1.out.trans (hk7.toBelow (B := w.heap.size) (fun i e => by omega) HB1.out.size))
  clear hh7 hk7 hz1
  go_wp2_with fail
  go_region
  go_wp2_with fail
  go_ret2
  exact ⟨rfl, HB2.out.drew⟩
set_option maxHeartbeats 1000000 in
theorem peel_flat (h : IsAr b S w F) (hl : levelA S t id = (0, 0)) : Calls Try.prog 24 #[.pointer (some ⟨b, 0, none⟩), .int .i64 t, .int .i64 id] w fun e w' => e = .returned (.tuple #[.int .i64 0, .int .i64 8]) ∧ Below w.heap.size w w' := by
  have HW := Lib.hid (walk_any b t w)
  have HI := Lib.hid h
  have HFL := Lib.hid h.lt
  have HL := Lib.hid hl
  clear h hl
  go_enter Try.func24, Try.ntmps24
  go_wp2_with fail
  with_reducible refine HW.out.mono ?_
  rintro e w1 ⟨rfl, hb1, hm1, hz1, hh1⟩
  have HLV := Lib.hid (hlevel_any (w.heap.size + 1) b t 0 96 (some (.map (some w.heap.size))) S F id w1 (HI.out.below hb1) hh1 (fun e => by have := HFL.out _ e; omega))
  rw [if_pos rfl, if_pos rfl, HL.out] at HLV
  have HB1 := Lib.hid hb1
  clear hb1 hm1 hh1
  go_wp2_with fail
  with_reducible refine HLV.out.mono ?_
  rintro e w7 ⟨rfl, hh7, hk7⟩
  have c2 := hh7.c2
  have HB2 := Lib.hid (show Below w.heap.size w w7 from HB1.out.trans (hk7.toBelow (B := w.heap.size) (fun i e => by omega) HB1.out.size))
  clear hh7 hk7 hz1
  go_wp2_with fail
  go_ret2
  exact ⟨rfl, HB2.out⟩
set_option maxHeartbeats 2000000 in
set_option maxRecDepth 100000 in
theorem count_err (h : IsAr b S w F) (hl : levelA S t id = (0, er)) (he : er ≠ 0) : Calls Try.prog 13 #[.pointer (some ⟨b, 0, none⟩), .int .i64 t, .int .i64 id] w fun e w' => e = .returned (.tuple #[.int .i64 0, .int .i64 er]) ∧ Below w.heap.size w w' := by
  have HW := Lib.hid (walk_any b t w)
  have HI := Lib.hid h
  have HFL := Lib.hid h.lt
  have HL := Lib.hid hl
  have hmk := make_intmap
  have g1 : (er == 0) = false := by simpa using he
  have g2 : (er != 0) = true := by simpa using he
  clear h hl he
  go_enter Try.func13, Try.ntmps13
  go_wp2_with fail
  with_reducible refine HW.out.mono ?_
  rintro e w1 ⟨rfl, hb1, hm1, hz1, hh1⟩
  obtain ⟨W2, hW2⟩ : ∃ W, W = w1.alloc (.cells #[.pointer (some ⟨w.heap.size + 1, 0, none⟩)] 92 (0, 0)) := ⟨_, rfl⟩
  have hz2 : W2.heap.size = w.heap.size + 3 := by rw [hW2]; simp [hz1]
  have hb2 : Below w1.heap.size w1 W2 := by rw [hW2]; exact (Below.refl _ _).alloc (Nat.le_refl _) _
  have h82 : W2.heap[w1.heap.size]? = some (.cells #[.pointer (some ⟨w.heap.size + 1, 0, none⟩)] 92 (0, 0)) := by rw [hW2]; exact blk_last w1 _ rfl
  obtain ⟨W3, hW3⟩ : ∃ W, W = W2.alloc (.map #[] 0) := ⟨_, rfl⟩
  have hm3 : MapOf intV I64 W3 W2.heap.size 0 (fun _ => none) := by rw [hW3]; exact MapOf.new intV I64 W2 0
  have hb3 : Below W2.heap.size W2 W3 := by rw [hW3]; exact (Below.refl _ _).alloc (Nat.le_refl _) _
  have hz3 : W3.heap.size = w.heap.size + 4 := by rw [hW3]; simp [hz2]
  obtain ⟨_, _, _, _, _, _, hen⟩ := MapOf.entry int_keyedV (t := 94) (e := 3) (z := .int .i64 0) Try.underlying94 (fun u => by kernel_rfl) hm3 (a := 0) (by unfold I64; omega)
  obtain ⟨W4, _, hu4, hm4, hk4, hz4⟩ := hen (.int .i64 0)
  obtain ⟨_, _, _, _, _, _, hen⟩ := MapOf.entry int_keyedV (t := 94) (e := 3) (z := .int .i64 0) Try.underlying94 (fun u => by kernel_rfl) hm4 (a := 1) (by unfold I64; omega)
  obtain ⟨W5, _, hu5, hm5, hk5, hz5⟩ := hen (.int .i64 1)
  unfold intV at hu4 hu5
  have hk35 : Keeps (fun i => i = W2.heap.size) W3 W5 := hk4.trans hk5 (fun _ _ h => h)
  obtain ⟨W6, hW6⟩ : ∃ W, W = W5.alloc (.cells #[.map (some W2.heap.size)] 94 (0, 0)) := ⟨_, rfl⟩
  have hb6 : Below W5.heap.size W5 W6 := by rw [hW6]; exact (Below.refl _ _).alloc (Nat.le_refl _) _
  have h96 : W6.heap[W5.heap.size]? = some (.cells #[.map (some W2.heap.size)] 94 (0, 0)) := by rw [hW6]; exact blk_last W5 _ rfl
  have hz5' : W5.heap.size = w.heap.size + 4 := by have h1 := hz4; have h2 := hz5; omega
  have hb26 : Below W2.heap.size W2 W6 := by
    refine ⟨hb6.os.trans (hk35.os.trans hb3.os), hb6.tape.trans (hk35.tape.trans hb3.tape), hb6.output.trans (hk35.output.trans hb3.output), Nat.le_trans hb3.size (Nat.le_trans hk35.size hb6.size), fun k hk => ?_⟩
    rw [hb6.block k (by omega), hk35.block k (by omega) (by omega), hb3.block k hk]
  have hb16 : Below w1.heap.size w1 W6 := hb2.trans (hb26.mono (by omega))
  have hb06 : Below w.heap.size w W6 := hb1.trans (hb16.mono (by omega))
  have hh6 : HandAt (w.heap.size + 1) b t 0 96 (some (.map (some w.heap.size))) W6 := hh1.keep (hb16.block _ (by omega))
  have h86 : W6.heap[w1.heap.size]? = some (.cells #[.pointer (some ⟨w.heap.size + 1, 0, none⟩)] 92 (0, 0)) := (hb26.block _ (by omega)).trans h82
  have hm6 := hm5.keep (hb6.block _ (by omega))
  have HW2 := Lib.hid hW2
  have HW3 := Lib.hid hW3
  have HW6 := Lib.hid hW6
  have HM6 := Lib.hid hm6
  have HH6 := Lib.hid hh6
  have HB6 := Lib.hid hb06
  have HI6 := Lib.hid (HI.out.below hb06)
  have H86 := Lib.hid h86
  have H96 := Lib.hid h96
  have HZ6 := Lib.hid (show W6.heap.size = w.heap.size + 5 by rw [hW6]; simp [hz5'])
  have hu4' := hu4
  rw [hW3] at hu4'
  have e8 := Joins.cell_of_block h86 0
  have e9 := Joins.cell_of_block h96 0
  simp at e8 e9
  have HLV := Lib.hid (hlevel_any (w.heap.size + 1) b t 0 96 (some (.map (some w.heap.size))) S F id W6 HI6.out hh6 (fun e => by have := HFL.out _ e; omega))
  rw [if_pos rfl, if_pos rfl, HL.out] at HLV
  have HZ1 := Lib.hid hz1
  have HZ2 := Lib.hid hz2
  have HZ5 := Lib.hid hz5'
  clear hb1 hm1 hh1 hz2 hb2 h82 hm3 hb3 hz3 hen hm4 hk4 hz4 hm5 hk5 hz5 hk35 hb6 h96 hz5' hb26 hb16 hb06 hh6 h86 hm6 hW6 hW3 hu4 hz1
  go_upto_region 2 with fail
  rw [← hW2]
  clear hW2
  go_upto_region 3 with fail
  rw [← HW6.out]
  go_wp2_with fail
  with_reducible refine HLV.out.mono ?_
  rintro e w7 ⟨rfl, hh7, hk7⟩
  have hz1 := HZ1.out
  have h87 := (hk7.block _ (lt_of_block H86.out) (by omega)).trans H86.out
  have g8 := Joins.cell_of_block h87 0
  simp at g8
  have c2 := hh7.c2
  have HB8 := Lib.hid (show Below w.heap.size w w7 from HB6.out.trans (hk7.toBelow (B := w.heap.size) (fun i e => by omega) HB6.out.size))
  clear hh7 hk7 h87 hz1 e8 e9
  go_wp2_with fail
  go_region
  go_wp2_with fail
  go_ret2
  exact ⟨rfl, HB8.out.drew⟩
set_option maxHeartbeats 2000000 in
theorem put_err (cx cy : Int) (al : Bool) (h : IsAr b S w F) (hl : levelA S t id = (0, er)) (he : er ≠ 0) : Calls Try.prog 18 #[.pointer (some ⟨b, 0, none⟩), .int .i64 t, .int .i64 id, .agg #[.int .i64 cx, .int .i64 cy], .bool al] w fun e w' => e = .returned (.tuple #[.int .i64 0, .int .i64 er]) ∧ Below w.heap.size w w' := by
  obtain ⟨X, hX⟩ : ∃ X, X = w.alloc (.cells #[.int .i64 cx, .int .i64 cy] 39 (0, 0)) := ⟨_, rfl⟩
  have hbX : Below w.heap.size w X := by rw [hX]; exact (Below.refl _ _).alloc (Nat.le_refl _) _
  have hiX := h.below hbX
  obtain ⟨hh, hn, hX2⟩ := hand_new (t := t) hiX
  have hbY : Below X.heap.size X (X.alloc (.cells #[.pointer (some ⟨b, 0, none⟩), .int .i64 t, .int .i64 0] 78 (0, 0))) := (Below.refl _ _).alloc (Nat.le_refl _) _
  have hLV := hlevel_any X.heap.size b t 0 78 none S F id _ hX2 hh hn
  rw [if_pos rfl, if_pos rfl, hl] at hLV
  have HLV := Lib.hid hLV
  have HBY := Lib.hid (hbX.trans (hbY.mono hbX.size))
  have HXE := Lib.hid hX
  have HXS := Lib.hid (show w.heap.size ≤ X.heap.size from hbX.size)
  have g1 : (er == 0) = false := by simpa using he
  have g2 : (er != 0) = true := by simpa using he
  clear h hl he hX hbX hiX hh hn hX2 hbY hLV
  go_enter Try.func18, Try.ntmps18
  go_upto_region 1 with fail
  rw [← HXE.out]
  go_wp2_with fail
  with_reducible refine HLV.out.mono ?_
  rintro e w7 ⟨rfl, hh7, hk7⟩
  have c2 := hh7.c2
  have HB2 := Lib.hid (show Below w.heap.size w w7 from HBY.out.trans (hk7.toBelow (B := w.heap.size) (fun i e => by have := HXS.out; omega) HBY.out.size))
  clear hh7 hk7
  go_wp2_with fail
  go_region
  go_wp2_with fail
  go_ret2
  exact ⟨rfl, HB2.out.drew⟩
set_option maxHeartbeats 2000000 in
theorem box_err (h : IsAr b S w F) (hl : levelA S t id = (0, er)) (he : er ≠ 0) : Calls Try.prog 21 #[.pointer (some ⟨b, 0, none⟩), .int .i64 t, .int .i64 id] w fun e w' => e = .returned (.tuple #[.agg #[.int .i64 0, .int .i64 0, .int .i64 0, .int .i64 0], .bool false, .int .i64 er]) ∧ Below w.heap.size w w' := by
  obtain ⟨X, hX⟩ : ∃ X, X = w.alloc (.cells #[.int .i64 0, .int .i64 0, .int .i64 0, .int .i64 0] 44 (0, 0)) := ⟨_, rfl⟩
  have hbX : Below w.heap.size w X := by rw [hX]; exact (Below.refl _ _).alloc (Nat.le_refl _) _
  have hbox : X.heap[w.heap.size]? = some (.cells #[.int .i64 0, .int .i64 0, .int .i64 0, .int .i64 0] 44 (0, 0)) := by rw [hX]; exact blk_last w _ rfl
  have HW := Lib.hid (walk_any b t X)
  have HI := Lib.hid (h.below hbX)
  have HFL := Lib.hid (h.below hbX).lt
  have HL := Lib.hid hl
  have g1 : (er == 0) = false := by simpa using he
  have g2 : (er != 0) = true := by simpa using he
  have HXE := Lib.hid hX
  have HBX := Lib.hid hbX
  have HBO := Lib.hid hbox
  have hXw : w.heap.size < X.heap.size := lt_of_block hbox
  clear h hl he hX hbX hbox
  go_enter Try.func21, Try.ntmps21
  go_upto_region 1 with fail
  rw [← HXE.out]
  go_wp2_with fail
  with_reducible refine HW.out.mono ?_
  rintro e w1 ⟨rfl, hb1, hm1, hz1, hh1⟩
  have HLV := Lib.hid (hlevel_any (X.heap.size + 1) b t 0 96 (some (.map (some X.heap.size))) S F id w1 (HI.out.below hb1) hh1 (fun e => by have := HFL.out _ e; omega))
  rw [if_pos rfl, if_pos rfl, HL.out] at HLV
  have HB1 := Lib.hid hb1
  clear hb1 hm1 hh1
  go_wp2_with fail
  with_reducible refine HLV.out.mono ?_
  rintro e w7 ⟨rfl, hh7, hk7⟩
  have c2 := hh7.c2
  have hbo : w7.heap[w.heap.size]? = some (.cells #[.int .i64 0, .int .i64 0, .int .i64 0, .int .i64 0] 44 (0, 0)) := (hk7.block _ (Nat.lt_of_lt_of_le hXw HB1.out.size) (by omega)).trans ((HB1.out.block _ hXw).trans HBO.out)
  have r0 := Joins.cell_of_block hbo 0
  have r1 := Joins.cell_of_block hbo 1
  have r2 := Joins.cell_of_block hbo 2
  have r3 := Joins.cell_of_block hbo 3
  have r4 := fun j => Joins.unfrozen_of_block hbo j
  simp at r0 r1 r2 r3
  have HBO7 := Lib.hid hbo
  have HB2 := Lib.hid (show Below w.heap.size w w7 from HBX.out.trans ((HB1.out.mono (by omega)).trans (hk7.toBelow (B := w.heap.size) (fun i e => by omega) (by have := HB1.out.size; omega))))
  clear hh7 hk7 hz1 hbo
  go_wp2_with fail
  go_region
  go_wp2_with fail
  generalize hZ : ((((w7.setCell ⟨w.heap.size, 0, none⟩ (.int .i64 0)).setCell ⟨w.heap.size, 1, none⟩ (.int .i64 0)).setCell ⟨w.heap.size, 2, none⟩ (.int .i64 0)).setCell ⟨w.heap.size, 3, none⟩ (.int .i64 0)).drew = Z
  have hZb : Z.heap[w.heap.size]? = some (.cells #[.int .i64 0, .int .i64 0, .int .i64 0, .int .i64 0] 44 (0, 0)) := by rw [← hZ]; exact set4 HBO7.out
  have z0 := Joins.cell_of_block hZb 0
  have z1 := Joins.cell_of_block hZb 1
  have z2 := Joins.cell_of_block hZb 2
  have z3 := Joins.cell_of_block hZb 3
  simp at z0 z1 z2 z3
  refine bodyPost_ret (v := .tuple #[.agg #[.int .i64 0, .int .i64 0, .int .i64 0, .int .i64 0], .bool false, .int .i64 er]) (by simp [results, Try.results21, go_sem, z0, z1, z2, z3]) rfl ⟨rfl, ?_⟩
  rw [← hZ]
  exact ((((HB2.out.setCell (Nat.le_refl _) _).setCell (Nat.le_refl _) _).setCell (Nat.le_refl _) _).setCell (Nat.le_refl _) _).drew
end
end Go.Proofs.Ytdmamecfmfhlmaa
