/-
  quad.Wrap.
-/
import Derived.Test.YtabhpbkkjijfjaaZLeapStepsQBuild
namespace Go.Proofs.Ytabhpbkkjijfjaa
set_option maxRecDepth 100000
open Go.RowKit

/-- A tree in the middle of one a level higher. -/
def wrapT (n : Nat) (a b c d : Tree) : Tree :=
  .node (.node (emptyT n) (emptyT n) (emptyT n) a) (.node (emptyT n) (emptyT n) b (emptyT n)) (.node (emptyT n) c (emptyT n) (emptyT n)) (.node d (emptyT n) (emptyT n) (emptyT n))
theorem BS.more {U : Th → Prop} {w W1 W W' : World} {F F1 : Nat → Prop} {hb b t : Nat} {ty : TypeId} {rest : Option Value} {S0 S1 : ArS} {bad b1 : Int} {Qb cost : Nat} {q : Four} (h : BS U w W1 F hb b t ty rest S0 bad Qb S1 b1 F1 cost q W) (hb' : Below W.heap.size W W') : BS U w W1 F hb b t ty rest S0 bad Qb S1 b1 F1 cost q W' :=
  { h with
    st := h.st.below hb'
    loc := fun i i1 i2 i3 => (hb'.block i (Nat.lt_of_lt_of_le i2 h.size)).trans (h.loc i i1 i2 i3)
    blk := (hb'.block _ (lt_of_block h.blk)).trans h.blk
    size := Nat.le_trans h.size hb'.size }
/-- What Wrap comes to. -/
def Wrapped (U : Th → Prop) (w : World) (F : Nat → Prop) (b t : Nat) (S : ArS) (er : Int) (n : Nat) (Ta Tb Tc Td : Tree) (e : Ending) (w' : World) : Prop :=
  ∃ (r er' : Int) (S' : ArS) (F' : Nat → Prop), e = .returned (.tuple #[.int .i64 r, .int .i64 er']) ∧ I64 r ∧ Res U t S S' er er' 5 ∧ (er' = 0 → Den S'.L t (n + 2) (wrapT n Ta Tb Tc Td) r) ∧ (er' ≠ 0 → r = 0) ∧ IsAr b S' w' F' ∧ (∀ i, F' i → F i ∨ w.heap.size ≤ i) ∧ Keeps F w w'
theorem wrap_flat (b t : Nat) (S : ArS) (F : Nat → Prop) (id : Int) (w : World) (h : IsAr b S w F) (hl : levelA S t id = (0, 0)) : Calls Try.prog 32 #[.pointer (some ⟨b, 0, none⟩), .int .i64 t, .int .i64 id] w fun e w' => e = .returned (.tuple #[.int .i64 0, .int .i64 8]) ∧ Below w.heap.size w w' := by
  obtain ⟨hh, hn, hX⟩ := hand_new (t := t) h
  have hbX : Below w.heap.size w (w.alloc (.cells #[.pointer (some ⟨b, 0, none⟩), .int .i64 t, .int .i64 0] 51 (0, 0))) := (Below.refl _ _).alloc (Nat.le_refl _) _
  have hLV := hlevel_any w.heap.size b t 0 51 none S F id _ hX hh hn
  rw [if_pos rfl, if_pos rfl, hl] at hLV
  have HLV := Lib.hid hLV
  have HBX := Lib.hid hbX
  clear h hh hn hX hbX hl hLV
  go_enter Try.func32, Try.ntmps32
  go_wp2_with fail
  with_reducible refine HLV.out.mono ?_
  rintro e w7 ⟨rfl, hh7, hk7⟩
  have c2 := hh7.c2
  have HB2 := Lib.hid (show Below w.heap.size w w7 from HBX.out.trans (hk7.toBelow (B := w.heap.size) (fun i e => by omega) HBX.out.size))
  clear hh7 hk7
  go_wp2_with fail
  go_ret2
  exact ⟨rfl, HB2.out⟩
set_option maxHeartbeats 8000000 in
set_option maxRecDepth 100000 in
theorem wrap_good {U : Th → Prop} (b t : Nat) (S : ArS) (F : Nat → Prop) (id : Int) (n : Nat) (Ta Tb Tc Td : Tree) (w : World) (h : IsAr b S w F) (wf : Wf S.L) (ht : t < 64) (hd : Den S.L t (n + 1) (.node Ta Tb Tc Td) id) (h44 : n + 2 ≤ 44) (hU : ∀ T', Sub T' (wrapT n Ta Tb Tc Td) → U (.sq T')) : Calls Try.prog 32 #[.pointer (some ⟨b, 0, none⟩), .int .i64 t, .int .i64 id] w (Wrapped U w F b t S 0 n Ta Tb Tc Td) := by
  obtain ⟨hh, hn, hX⟩ := hand_new (t := t) h
  have hbX : Below w.heap.size w (w.alloc (.cells #[.pointer (some ⟨b, 0, none⟩), .int .i64 t, .int .i64 0] 51 (0, 0))) := (Below.refl _ _).alloc (Nat.le_refl _) _
  have hLV := hlevel_any w.heap.size b t 0 51 none S F id _ hX hh hn
  have hHN : HState (w.alloc (.cells #[.pointer (some ⟨b, 0, none⟩), .int .i64 t, .int .i64 0] 51 (0, 0))) F w.heap.size b t 51 none S 0 F (w.alloc (.cells #[.pointer (some ⟨b, 0, none⟩), .int .i64 t, .int .i64 0] 51 (0, 0))) := HState.refl hX hh
  obtain ⟨X0, hX0⟩ : ∃ X, X = w.alloc (.cells #[.pointer (some ⟨b, 0, none⟩), .int .i64 t, .int .i64 0] 51 (0, 0)) := ⟨_, rfl⟩
  rw [← hX0] at hh hX hbX hLV hHN
  have hz0 : X0.heap.size = w.heap.size + 1 := by rw [hX0]; simp
  rw [if_pos rfl, if_pos rfl, levelA_yes ht hd.owns, hd.lev h.ok] at hLV
  have hd0 := hd
  obtain ⟨h2, x, h3, h4, h5, h6, xa, xb, xc, xd⟩ := hd0
  obtain ⟨i, rfl⟩ : ∃ i : Nat, id = i := ⟨id.toNat, by omega⟩
  rw [Int.toNat_natCast] at h3
  have hkd : kidsA S t (i : Int) = ((x.a, x.b, x.c, x.d), 0) := kidsA_yes ht hd.owns (by omega) h3
  obtain ⟨q0, hq0⟩ : ∃ q, q = x.a := ⟨_, rfl⟩
  obtain ⟨q1, hq1⟩ : ∃ q, q = x.b := ⟨_, rfl⟩
  obtain ⟨q2, hq2⟩ : ∃ q, q = x.c := ⟨_, rfl⟩
  obtain ⟨q3, hq3⟩ : ∃ q, q = x.d := ⟨_, rfl⟩
  rw [← hq0] at xa hkd
  rw [← hq1] at xb hkd
  rw [← hq2] at xc hkd
  rw [← hq3] at xd hkd
  have HQ := Lib.hid (show I64 q0 ∧ I64 q1 ∧ I64 q2 ∧ I64 q3 from ⟨xa.i64 h.ok, xb.i64 h.ok, xc.i64 h.ok, xd.i64 h.ok⟩)
  have HDD := Lib.hid ((show Den S.L t n Ta q0 ∧ Den S.L t n Tb q1 ∧ Den S.L t n Tc q2 ∧ Den S.L t n Td q3 from ⟨xa, xb, xc, xd⟩))
  have HKD := Lib.hid (fun (W : World) (hi : IsAr b S W F) (hhd : HandAt w.heap.size b t 0 51 none W) => (by
    have hk := hkids_any w.heap.size b t 0 51 none S F (i : Int) W hi hhd hn
    rw [if_pos rfl, if_pos rfl, hkd] at hk
    exact hk : Calls Try.prog 28 #[.pointer (some ⟨w.heap.size, 0, none⟩), .int .i64 (i : Int)] W (HRead W w.heap.size b t 51 none (.agg #[.int .i64 q0, .int .i64 q1, .int .i64 q2, .int .i64 q3]) 0)))
  obtain ⟨lv, hlv⟩ : ∃ lv : Nat, lv = n + 1 := ⟨_, rfl⟩
  have hlI : (((n + 1 : Nat)) : Int) = (lv : Int) := by omega
  have hlI2 : (lv : Int) - 1 = (n : Int) := by omega
  have hlz : ((lv : Int) == 0) = false := by simp; omega
  have hlz2 : (lv == 0) = false := by simp; omega
  rw [hlI] at hLV
  have HNN := Lib.hid h44
  have hnb : n ≤ 42 := by omega
  clear h2 h3 h4 h5 h6 xa xb xc xd hkd hq0 hq1 hq2 hq3 hlv hlI h44 hd
  have HLV := Lib.hid hLV
  have HBX := Lib.hid hbX
  have HX0 := Lib.hid hX0
  have HH0 := Lib.hid hHN
  have HN0 := Lib.hid hn
  have HWF := Lib.hid wf
  have HU := Lib.hid hU
  have HFL := Lib.hid h.lt
  clear h hh hn hX hbX hLV hHN hX0 wf hU
  go_enter Try.func32, Try.ntmps32
  go_upto_region 2 with fail
  rw [← HX0.out]
  go_wp2_with fail
  with_reducible refine HLV.out.mono ?_
  rintro e w1 ⟨rfl, hh1, hk1⟩
  have c2 := hh1.c2
  have hst1 : HState X0 F w.heap.size b t 51 none S 0 F w1 := ⟨HH0.out.1.keep hk1 (fun i hi e => HN0.out (by rw [← e]; exact hi)), hh1, fun i hi => .inl hi, hk1.mono fun i _ e => .inr e⟩
  have HS1 := Lib.hid hst1
  have HK1 := Lib.hid (HKD.out w1 hst1.1 hh1)
  clear hh1 hk1 hst1
  go_wp2_with fail
  with_reducible refine HK1.out.mono ?_
  rintro e w2 ⟨rfl, hh2, hk2⟩
  obtain ⟨X2, hX2⟩ : ∃ X, X = w2.alloc (.cells #[.int .i64 q0, .int .i64 q1, .int .i64 q2, .int .i64 q3] 72 (0, 0)) := ⟨_, rfl⟩
  have hb2 : Below w2.heap.size w2 X2 := by rw [hX2]; exact (Below.refl _ _).alloc (Nat.le_refl _) _
  have hq2 : X2.heap[w2.heap.size]? = some (.cells #[.int .i64 q0, .int .i64 q1, .int .i64 q2, .int .i64 q3] 72 (0, 0)) := by rw [hX2]; exact blk_last w2 _ rfl
  have hst2 : HState X0 F w.heap.size b t 51 none S 0 F X2 := (HS1.out.trans ⟨HS1.out.1.keep hk2 (fun i hi e => HN0.out (by rw [← e]; exact hi)), hh2, fun i hi => .inl hi, hk2.mono fun i _ e => .inr e⟩).below hb2
  have c3 := hst2.2.1.c2
  have hsz2 := hst2.2.2.2.size
  have hz2 : w2.heap.size < X2.heap.size := by rw [hX2]; simp
  have hww : w.heap.size < w2.heap.size := hh2.lt
  have HS2 := Lib.hid hst2
  have HQ2 := Lib.hid hq2
  have HX2 := Lib.hid hX2
  have HZ2 := Lib.hid hz2
  clear hh2 hk2 hX2 hb2 hq2 hst2 hz2 c2
  go_upto_region 7 with fail
  rw [← HX2.out]
  go_wp2_with fail
  have HEM := Lib.hid (empty_any (U := U) w.heap.size b t 0 51 none S F n X2 HS2.out.1 HWF.out HS2.out.2.1 HN0.out ht (by have := HNN.out; omega) (fun k hk => HU.out _ (.inr (.inl (.inr (.inl (sub_empty hk)))))))
  with_reducible refine HEM.out.mono ?_
  rintro e w3 ⟨S3, b3, v, F3, rfl, ⟨ee, rfl, hee, hres3, hden3⟩, g1, g2, g3, g4⟩
  have hst3 : HState X0 F w.heap.size b t 51 none S3 b3 F3 w3 := HS2.out.trans ⟨g1, g2, g3, g4⟩
  have hg3 : ∀ i, F3 i → F i ∨ X2.heap.size ≤ i := g3
  have hq3 : w3.heap[w2.heap.size]? = some (.cells #[.int .i64 q0, .int .i64 q1, .int .i64 q2, .int .i64 q3] 72 (0, 0)) := (g4.block _ (lt_of_block HQ2.out) (fun e => by
    rcases e with e | e
    · have := HFL.out _ e; omega
    · omega)).trans HQ2.out
  have hz3 : X2.heap.size ≤ w3.heap.size := g4.size
  obtain ⟨W1, hW1⟩ : ∃ W, W = w3.alloc (.cells #[.int .i64 0, .int .i64 0, .int .i64 0, .int .i64 0] 72 (0, 0)) := ⟨_, rfl⟩
  have hbW : Below w3.heap.size w3 W1 := by rw [hW1]; exact (Below.refl _ _).alloc (Nat.le_refl _) _
  have hP1 : W1.heap[w3.heap.size]? = some (.cells #[.int .i64 0, .int .i64 0, .int .i64 0, .int .i64 0] 72 (0, 0)) := by rw [hW1]; exact blk_last w3 _ rfl
  have hW1z : W1.heap.size = w3.heap.size + 1 := by rw [hW1]; simp
  have hz2' := HZ2.out
  have hlt3 := hst3.2.1.lt
  have hout3 : ¬ F3 w.heap.size := hst3.out HN0.out (by omega)
  have hi0 : I64 (0 : Int) := by unfold I64; omega
  have hB0 : BS U w3 W1 F3 w.heap.size b t 51 none S3 b3 w3.heap.size S3 b3 F3 0 (0, 0, 0, 0) W1 := ⟨⟨hst3.1.below hbW, hst3.2.1.keep (hbW.block _ hlt3), fun i hi => .inl hi, Keeps.of_below hbW⟩, fun i hi => .inl hi, Res.refl hres3.wf, fun i _ _ _ => rfl, hP1, ⟨hi0, hi0, hi0, hi0⟩, Nat.le_refl _, ⟨Nat.le_refl _, by omega⟩, hst3.1.lt, ⟨hout3, hlt3⟩⟩
  have HB0 := Lib.hid hB0
  have hqn : ¬ F3 w2.heap.size := fun e => by
    rcases hg3 _ e with e1 | e1
    · have := HFL.out _ e1; omega
    · omega
  have HQN := Lib.hid hqn
  have HQ0 := Lib.hid (show W1.heap[w2.heap.size]? = some (.cells #[.int .i64 q0, .int .i64 q1, .int .i64 q2, .int .i64 q3] 72 (0, 0)) from (hbW.block _ (lt_of_block hq3)).trans hq3)
  have HW1 := Lib.hid hW1
  have HST3 := Lib.hid hst3
  have HRES3 := Lib.hid hres3
  have HDEN3 := Lib.hid hden3
  have HEE := Lib.hid hee
  have hneq : w2.heap.size < w3.heap.size := by omega
  have HW1Z := Lib.hid (show w3.heap.size < W1.heap.size by omega)
  clear hW1z hst3 hq3 hbW hP1 hW1 hB0 hqn hres3 hden3 hee hg3 c3 hi0 hout3 g1 g2 g3 g4
  go_upto_region 10 with fail
  rw [← HW1.out]
  go_wp2_with fail
  refine wp_loop_rounds 5 ?_
  rw [rounds_succ]
  have z0 := Joins.cell_of_block HQ0.out 0
  simp at z0
  obtain ⟨Y0, hY0⟩ : ∃ X, X = W1.alloc (.cells #[.int .i64 ee, .int .i64 ee, .int .i64 ee, .int .i64 q0] 72 (0, 0)) := ⟨_, rfl⟩
  have hyb0 : Below W1.heap.size W1 Y0 := by rw [hY0]; exact (Below.refl _ _).alloc (Nat.le_refl _) _
  have hyr0 : Y0.heap[W1.heap.size]? = some (.cells #[.int .i64 ee, .int .i64 ee, .int .i64 ee, .int .i64 q0] 72 (0, 0)) := by rw [hY0]; exact blk_last W1 _ rfl
  have HBY0 := Lib.hid (HB0.out.more hyb0)
  have HQY0 := Lib.hid ((hyb0.block _ (lt_of_block HQ0.out)).trans HQ0.out)
  have y0 := Joins.cell_of_block hyr0 0
  have y1 := Joins.cell_of_block hyr0 1
  have y2 := Joins.cell_of_block hyr0 2
  have y3 := Joins.cell_of_block hyr0 3
  simp at y0 y1 y2 y3
  have hJ0 := hjoin_tree (U := U) w.heap.size b t b3 51 none S3 F3 (ee, ee, ee, q0) n (emptyT n) (emptyT n) (emptyT n) Ta Y0 HBY0.out.st.1 HBY0.out.res.wf HBY0.out.st.2.1 HBY0.out.hand ⟨HEE.out, HEE.out, HEE.out, HQ.out.1⟩ ht (by have := HNN.out; omega) (fun hb0 => by
          exact ⟨HDEN3.out hb0, HDEN3.out hb0, HDEN3.out hb0, HDD.out.1.ext (HRES3.out.grew.ext t)⟩) (fun _ => HU.out _ (.inr (.inl (.inl rfl))))
  unfold fourV at hJ0
  have HJ := Lib.hid hJ0
  have hqw0 : w2.heap.size < W1.heap.size := lt_of_block HQ0.out
  have hpw0 : w3.heap.size < W1.heap.size := lt_of_block HB0.out.blk
  have HYE := Lib.hid hY0
  clear hJ0 hyb0 hyr0 hY0
  go_upto_region 15 with fail
  rw [← HYE.out]
  go_wp2_with fail
  with_reducible refine HJ.out.mono ?_
  rintro e v1 ⟨T1, d1, v, G1, rfl, ⟨hm, _⟩, g1, g2, g3, g4⟩
  obtain ⟨r0, rfl, hr, hres, hden⟩ := hm
  have hfr0 := HBY0.out.free HBY0.out.new.1 HBY0.out.new.2
  have hpb0 := (g4.block w3.heap.size (lt_of_block HBY0.out.blk) (fun e => by rcases e with e | e; exact hfr0.1 e; exact hfr0.2 e)).trans HBY0.out.blk
  have hqb0 := (g4.block w2.heap.size (lt_of_block HQY0.out) (fun e => by
    rcases e with e | e
    · rcases HBY0.out.far _ e with e1 | e1
      · exact HQN.out e1
      · have := HW1Z.out; omega
    · omega)).trans HQY0.out
  have HRS0 := Lib.hid hres
  have HDS0 := Lib.hid hden
  have HB1 := Lib.hid (HBY0.out.step (q' := (r0, 0, 0, 0)) (j := 0) (r := r0) g1 g2 g3 g4 hres rfl ⟨hr, HBY0.out.q64.2.1, HBY0.out.q64.2.2.1, HBY0.out.q64.2.2.2⟩)
  have s0 := Joins.cell_of_block hpb0 0
  simp at s0
  have u0' := Joins.unfrozen_of_block hpb0 0
  obtain ⟨Z1, hZ1⟩ : ∃ X, X = v1.setCell ⟨w3.heap.size, 0, none⟩ (.int .i64 r0) := ⟨_, rfl⟩
  have HQ1 := Lib.hid (show Z1.heap[w2.heap.size]? = some (.cells #[.int .i64 q0, .int .i64 q1, .int .i64 q2, .int .i64 q3] 72 (0, 0)) from by rw [hZ1]; exact (Below.heap_setCell _ _ _ _ (by show w2.heap.size ≠ w3.heap.size; omega)).trans hqb0)
  rw [← hZ1] at HB1
  have HZZ1 := Lib.hid hZ1
  clear g1 g2 g3 g4 hres hden hr hfr0 hpb0 hqb0 hZ1 z0 y0 y1 y2 y3 HJ HYE
  go_upto_region 16 with fail
  rw [← HZZ1.out]
  clear s0 u0'
  go_wp2_with fail
  rw [rounds_succ]
  have z1 := Joins.cell_of_block HQ1.out 1
  simp at z1
  obtain ⟨Y1, hY1⟩ : ∃ X, X = Z1.alloc (.cells #[.int .i64 ee, .int .i64 ee, .int .i64 q1, .int .i64 ee] 72 (0, 0)) := ⟨_, rfl⟩
  have hyb1 : Below Z1.heap.size Z1 Y1 := by rw [hY1]; exact (Below.refl _ _).alloc (Nat.le_refl _) _
  have hyr1 : Y1.heap[Z1.heap.size]? = some (.cells #[.int .i64 ee, .int .i64 ee, .int .i64 q1, .int .i64 ee] 72 (0, 0)) := by rw [hY1]; exact blk_last Z1 _ rfl
  have HBY1 := Lib.hid (HB1.out.more hyb1)
  have HQY1 := Lib.hid ((hyb1.block _ (lt_of_block HQ1.out)).trans HQ1.out)
  have y0 := Joins.cell_of_block hyr1 0
  have y1 := Joins.cell_of_block hyr1 1
  have y2 := Joins.cell_of_block hyr1 2
  have y3 := Joins.cell_of_block hyr1 3
  simp at y0 y1 y2 y3
  have hJ1 := hjoin_tree (U := U) w.heap.size b t d1 51 none T1 G1 (ee, ee, q1, ee) n (emptyT n) (emptyT n) Tb (emptyT n) Y1 HBY1.out.st.1 HBY1.out.res.wf HBY1.out.st.2.1 HBY1.out.hand ⟨HEE.out, HEE.out, HQ.out.2.1, HEE.out⟩ ht (by have := HNN.out; omega) (fun hb0 => by
          have n0 := HRS0.out.nil hb0
          exact ⟨(HDEN3.out n0).ext (HRS0.out.grew.ext t), (HDEN3.out n0).ext (HRS0.out.grew.ext t), (HDD.out.2.1.ext (HRES3.out.grew.ext t)).ext (HRS0.out.grew.ext t), (HDEN3.out n0).ext (HRS0.out.grew.ext t)⟩) (fun _ => HU.out _ (.inr (.inr (.inl (.inl rfl)))))
  unfold fourV at hJ1
  have HJ := Lib.hid hJ1
  have hqw1 : w2.heap.size < Z1.heap.size := lt_of_block HQ1.out
  have hpw1 : w3.heap.size < Z1.heap.size := lt_of_block HB1.out.blk
  have HYE := Lib.hid hY1
  clear hJ1 hyb1 hyr1 hY1
  go_upto_region 15 with fail
  rw [← HYE.out]
  go_wp2_with fail
  with_reducible refine HJ.out.mono ?_
  rintro e v2 ⟨T2, d2, v, G2, rfl, ⟨hm, _⟩, g1, g2, g3, g4⟩
  obtain ⟨r1, rfl, hr, hres, hden⟩ := hm
  have hfr1 := HBY1.out.free HBY1.out.new.1 HBY1.out.new.2
  have hpb1 := (g4.block w3.heap.size (lt_of_block HBY1.out.blk) (fun e => by rcases e with e | e; exact hfr1.1 e; exact hfr1.2 e)).trans HBY1.out.blk
  have hqb1 := (g4.block w2.heap.size (lt_of_block HQY1.out) (fun e => by
    rcases e with e | e
    · rcases HBY1.out.far _ e with e1 | e1
      · exact HQN.out e1
      · have := HW1Z.out; omega
    · omega)).trans HQY1.out
  have HRS1 := Lib.hid hres
  have HDS1 := Lib.hid hden
  have HB2 := Lib.hid (HBY1.out.step (q' := (r0, r1, 0, 0)) (j := 1) (r := r1) g1 g2 g3 g4 hres rfl ⟨HBY1.out.q64.1, hr, HBY1.out.q64.2.2.1, HBY1.out.q64.2.2.2⟩)
  have s1 := Joins.cell_of_block hpb1 1
  simp at s1
  have u1' := Joins.unfrozen_of_block hpb1 1
  obtain ⟨Z2, hZ2⟩ : ∃ X, X = v2.setCell ⟨w3.heap.size, 1, none⟩ (.int .i64 r1) := ⟨_, rfl⟩
  have HQ2 := Lib.hid (show Z2.heap[w2.heap.size]? = some (.cells #[.int .i64 q0, .int .i64 q1, .int .i64 q2, .int .i64 q3] 72 (0, 0)) from by rw [hZ2]; exact (Below.heap_setCell _ _ _ _ (by show w2.heap.size ≠ w3.heap.size; omega)).trans hqb1)
  rw [← hZ2] at HB2
  have HZZ2 := Lib.hid hZ2
  clear g1 g2 g3 g4 hres hden hr hfr1 hpb1 hqb1 hZ2 z1 y0 y1 y2 y3 HJ HYE
  go_upto_region 16 with fail
  rw [← HZZ2.out]
  clear s1 u1'
  go_wp2_with fail
  rw [rounds_succ]
  have z2 := Joins.cell_of_block HQ2.out 2
  simp at z2
  obtain ⟨Y2, hY2⟩ : ∃ X, X = Z2.alloc (.cells #[.int .i64 ee, .int .i64 q2, .int .i64 ee, .int .i64 ee] 72 (0, 0)) := ⟨_, rfl⟩
  have hyb2 : Below Z2.heap.size Z2 Y2 := by rw [hY2]; exact (Below.refl _ _).alloc (Nat.le_refl _) _
  have hyr2 : Y2.heap[Z2.heap.size]? = some (.cells #[.int .i64 ee, .int .i64 q2, .int .i64 ee, .int .i64 ee] 72 (0, 0)) := by rw [hY2]; exact blk_last Z2 _ rfl
  have HBY2 := Lib.hid (HB2.out.more hyb2)
  have HQY2 := Lib.hid ((hyb2.block _ (lt_of_block HQ2.out)).trans HQ2.out)
  have y0 := Joins.cell_of_block hyr2 0
  have y1 := Joins.cell_of_block hyr2 1
  have y2 := Joins.cell_of_block hyr2 2
  have y3 := Joins.cell_of_block hyr2 3
  simp at y0 y1 y2 y3
  have hJ2 := hjoin_tree (U := U) w.heap.size b t d2 51 none T2 G2 (ee, q2, ee, ee) n (emptyT n) Tc (emptyT n) (emptyT n) Y2 HBY2.out.st.1 HBY2.out.res.wf HBY2.out.st.2.1 HBY2.out.hand ⟨HEE.out, HQ.out.2.2.1, HEE.out, HEE.out⟩ ht (by have := HNN.out; omega) (fun hb0 => by
          have n1 := HRS1.out.nil hb0
          have n0 := HRS0.out.nil n1
          exact ⟨((HDEN3.out n0).ext (HRS0.out.grew.ext t)).ext (HRS1.out.grew.ext t), ((HDD.out.2.2.1.ext (HRES3.out.grew.ext t)).ext (HRS0.out.grew.ext t)).ext (HRS1.out.grew.ext t), ((HDEN3.out n0).ext (HRS0.out.grew.ext t)).ext (HRS1.out.grew.ext t), ((HDEN3.out n0).ext (HRS0.out.grew.ext t)).ext (HRS1.out.grew.ext t)⟩) (fun _ => HU.out _ (.inr (.inr (.inr (.inl (.inl rfl))))))
  unfold fourV at hJ2
  have HJ := Lib.hid hJ2
  have hqw2 : w2.heap.size < Z2.heap.size := lt_of_block HQ2.out
  have hpw2 : w3.heap.size < Z2.heap.size := lt_of_block HB2.out.blk
  have HYE := Lib.hid hY2
  clear hJ2 hyb2 hyr2 hY2
  go_upto_region 15 with fail
  rw [← HYE.out]
  go_wp2_with fail
  with_reducible refine HJ.out.mono ?_
  rintro e v3 ⟨T3, d3, v, G3, rfl, ⟨hm, _⟩, g1, g2, g3, g4⟩
  obtain ⟨r2, rfl, hr, hres, hden⟩ := hm
  have hfr2 := HBY2.out.free HBY2.out.new.1 HBY2.out.new.2
  have hpb2 := (g4.block w3.heap.size (lt_of_block HBY2.out.blk) (fun e => by rcases e with e | e; exact hfr2.1 e; exact hfr2.2 e)).trans HBY2.out.blk
  have hqb2 := (g4.block w2.heap.size (lt_of_block HQY2.out) (fun e => by
    rcases e with e | e
    · rcases HBY2.out.far _ e with e1 | e1
      · exact HQN.out e1
      · have := HW1Z.out; omega
    · omega)).trans HQY2.out
  have HRS2 := Lib.hid hres
  have HDS2 := Lib.hid hden
  have HB3 := Lib.hid (HBY2.out.step (q' := (r0, r1, r2, 0)) (j := 2) (r := r2) g1 g2 g3 g4 hres rfl ⟨HBY2.out.q64.1, HBY2.out.q64.2.1, hr, HBY2.out.q64.2.2.2⟩)
  have s2 := Joins.cell_of_block hpb2 2
  simp at s2
  have u2' := Joins.unfrozen_of_block hpb2 2
  obtain ⟨Z3, hZ3⟩ : ∃ X, X = v3.setCell ⟨w3.heap.size, 2, none⟩ (.int .i64 r2) := ⟨_, rfl⟩
  have HQ3 := Lib.hid (show Z3.heap[w2.heap.size]? = some (.cells #[.int .i64 q0, .int .i64 q1, .int .i64 q2, .int .i64 q3] 72 (0, 0)) from by rw [hZ3]; exact (Below.heap_setCell _ _ _ _ (by show w2.heap.size ≠ w3.heap.size; omega)).trans hqb2)
  rw [← hZ3] at HB3
  have HZZ3 := Lib.hid hZ3
  clear g1 g2 g3 g4 hres hden hr hfr2 hpb2 hqb2 hZ3 z2 y0 y1 y2 y3 HJ HYE
  go_upto_region 16 with fail
  rw [← HZZ3.out]
  clear s2 u2'
  go_wp2_with fail
  rw [rounds_succ]
  have z3 := Joins.cell_of_block HQ3.out 3
  simp at z3
  obtain ⟨Y3, hY3⟩ : ∃ X, X = Z3.alloc (.cells #[.int .i64 q3, .int .i64 ee, .int .i64 ee, .int .i64 ee] 72 (0, 0)) := ⟨_, rfl⟩
  have hyb3 : Below Z3.heap.size Z3 Y3 := by rw [hY3]; exact (Below.refl _ _).alloc (Nat.le_refl _) _
  have hyr3 : Y3.heap[Z3.heap.size]? = some (.cells #[.int .i64 q3, .int .i64 ee, .int .i64 ee, .int .i64 ee] 72 (0, 0)) := by rw [hY3]; exact blk_last Z3 _ rfl
  have HBY3 := Lib.hid (HB3.out.more hyb3)
  have HQY3 := Lib.hid ((hyb3.block _ (lt_of_block HQ3.out)).trans HQ3.out)
  have y0 := Joins.cell_of_block hyr3 0
  have y1 := Joins.cell_of_block hyr3 1
  have y2 := Joins.cell_of_block hyr3 2
  have y3 := Joins.cell_of_block hyr3 3
  simp at y0 y1 y2 y3
  have hJ3 := hjoin_tree (U := U) w.heap.size b t d3 51 none T3 G3 (q3, ee, ee, ee) n Td (emptyT n) (emptyT n) (emptyT n) Y3 HBY3.out.st.1 HBY3.out.res.wf HBY3.out.st.2.1 HBY3.out.hand ⟨HQ.out.2.2.2, HEE.out, HEE.out, HEE.out⟩ ht (by have := HNN.out; omega) (fun hb0 => by
          have n2 := HRS2.out.nil hb0
          have n1 := HRS1.out.nil n2
          have n0 := HRS0.out.nil n1
          exact ⟨(((HDD.out.2.2.2.ext (HRES3.out.grew.ext t)).ext (HRS0.out.grew.ext t)).ext (HRS1.out.grew.ext t)).ext (HRS2.out.grew.ext t), (((HDEN3.out n0).ext (HRS0.out.grew.ext t)).ext (HRS1.out.grew.ext t)).ext (HRS2.out.grew.ext t), (((HDEN3.out n0).ext (HRS0.out.grew.ext t)).ext (HRS1.out.grew.ext t)).ext (HRS2.out.grew.ext t), (((HDEN3.out n0).ext (HRS0.out.grew.ext t)).ext (HRS1.out.grew.ext t)).ext (HRS2.out.grew.ext t)⟩) (fun _ => HU.out _ (.inr (.inr (.inr (.inr (.inl rfl))))))
  unfold fourV at hJ3
  have HJ := Lib.hid hJ3
  have hqw3 : w2.heap.size < Z3.heap.size := lt_of_block HQ3.out
  have hpw3 : w3.heap.size < Z3.heap.size := lt_of_block HB3.out.blk
  have HYE := Lib.hid hY3
  clear hJ3 hyb3 hyr3 hY3
  go_upto_region 15 with fail
  rw [← HYE.out]
  go_wp2_with fail
  with_reducible refine HJ.out.mono ?_
  rintro e v4 ⟨T4, d4, v, G4, rfl, ⟨hm, _⟩, g1, g2, g3, g4⟩
  obtain ⟨r3, rfl, hr, hres, hden⟩ := hm
  have hfr3 := HBY3.out.free HBY3.out.new.1 HBY3.out.new.2
  have hpb3 := (g4.block w3.heap.size (lt_of_block HBY3.out.blk) (fun e => by rcases e with e | e; exact hfr3.1 e; exact hfr3.2 e)).trans HBY3.out.blk
  have hqb3 := (g4.block w2.heap.size (lt_of_block HQY3.out) (fun e => by
    rcases e with e | e
    · rcases HBY3.out.far _ e with e1 | e1
      · exact HQN.out e1
      · have := HW1Z.out; omega
    · omega)).trans HQY3.out
  have HRS3 := Lib.hid hres
  have HDS3 := Lib.hid hden
  have HB4 := Lib.hid (HBY3.out.step (q' := (r0, r1, r2, r3)) (j := 3) (r := r3) g1 g2 g3 g4 hres rfl ⟨HBY3.out.q64.1, HBY3.out.q64.2.1, HBY3.out.q64.2.2.1, hr⟩)
  have s3 := Joins.cell_of_block hpb3 3
  simp at s3
  have u3' := Joins.unfrozen_of_block hpb3 3
  obtain ⟨Z4, hZ4⟩ : ∃ X, X = v4.setCell ⟨w3.heap.size, 3, none⟩ (.int .i64 r3) := ⟨_, rfl⟩
  have HQ4 := Lib.hid (show Z4.heap[w2.heap.size]? = some (.cells #[.int .i64 q0, .int .i64 q1, .int .i64 q2, .int .i64 q3] 72 (0, 0)) from by rw [hZ4]; exact (Below.heap_setCell _ _ _ _ (by show w2.heap.size ≠ w3.heap.size; omega)).trans hqb3)
  rw [← hZ4] at HB4
  have HZZ4 := Lib.hid hZ4
  clear g1 g2 g3 g4 hres hden hr hfr3 hpb3 hqb3 hZ4 z3 y0 y1 y2 y3 HJ HYE
  go_upto_region 16 with fail
  rw [← HZZ4.out]
  clear s3 u3'
  go_wp2_with fail
  rw [rounds_succ]
  have y0 := Joins.cell_of_block HB4.out.blk 0
  have y1 := Joins.cell_of_block HB4.out.blk 1
  have y2 := Joins.cell_of_block HB4.out.blk 2
  have y3 := Joins.cell_of_block HB4.out.blk 3
  simp at y0 y1 y2 y3
  have hJ := hjoin_tree (U := U) w.heap.size b t d4 51 none T4 G4 (r0, r1, r2, r3) (n + 1) (.node (emptyT n) (emptyT n) (emptyT n) Ta) (.node (emptyT n) (emptyT n) Tb (emptyT n)) (.node (emptyT n) Tc (emptyT n) (emptyT n)) (.node Td (emptyT n) (emptyT n) (emptyT n)) Z4 HB4.out.st.1 HB4.out.res.wf HB4.out.st.2.1 HB4.out.hand HB4.out.q64 ht (by have := HNN.out; omega) (fun n3 => by
    have n2 := HRS3.out.nil n3
    have n1 := HRS2.out.nil n2
    have n0 := HRS1.out.nil n1
    exact ⟨(((HDS0.out n0).ext (HRS1.out.grew.ext t)).ext (HRS2.out.grew.ext t)).ext (HRS3.out.grew.ext t), ((HDS1.out n1).ext (HRS2.out.grew.ext t)).ext (HRS3.out.grew.ext t), (HDS2.out n2).ext (HRS3.out.grew.ext t), HDS3.out n3⟩) (fun _ => HU.out _ (.inl rfl))
  unfold fourV at hJ
  have HJ := Lib.hid hJ
  clear hJ
  go_wp2_with fail
  with_reducible refine HJ.out.mono ?_
  rintro e w5 ⟨S5, b5, v, F5, rfl, ⟨hm, _⟩, g1, g2, g3, g4⟩
  obtain ⟨r, rfl, hr, hres, hden⟩ := hm
  have hstA : HState w3 F3 w.heap.size b t 51 none S5 b5 F5 w5 := HB4.out.st.trans ⟨g1, g2, g3, g4⟩
  have HS5 := Lib.hid (HST3.out.trans hstA)
  have HR5 := Lib.hid (HRES3.out.trans (HB4.out.res.trans hres))
  have HD5 := Lib.hid hden
  have HI5 := Lib.hid hr
  have HDN := Lib.hid (done_any w.heap.size b t b5 51 none r w5 g2)
  clear g1 g2 g3 g4 hres hden hr hstA y0 y1 y2 y3
  go_wp2_with fail
  with_reducible refine HDN.out.mono ?_
  rintro e w6 ⟨rfl, h6⟩
  obtain ⟨c1', c2', c3'⟩ := (HS5.out.below h6).close HBX.out
  have C1 := Lib.hid c1'
  have C2 := Lib.hid c2'
  have C3 := Lib.hid c3'
  obtain ⟨rr, hrr⟩ : ∃ rr, rr = if b5 = 0 then r else 0 := ⟨_, rfl⟩
  have HRR := Lib.hid hrr
  rw [← hrr]
  clear c1' c2' c3' h6 hrr
  go_wp2_with fail
  go_ret2
  refine ⟨rr, b5, S5, F5, rfl, ?_, HR5.out.more (by omega), fun e5 => ?_, fun e5 => ?_, C1.out, C2.out, C3.out⟩
  · rw [HRR.out]; split
    · exact HI5.out
    · unfold I64; omega
  · rw [HRR.out, if_pos e5]; exact HD5.out e5
  · rw [HRR.out, if_neg e5]
set_option maxHeartbeats 8000000 in
set_option maxRecDepth 100000 in
theorem wrap_err {U : Th → Prop} (b t : Nat) (S : ArS) (F : Nat → Prop) (id : Int) (er : Int) (n : Nat) (Ta Tb Tc Td : Tree) (w : World) (h : IsAr b S w F) (wf : Wf S.L) (ht : t < 64) (hl : levelA S t id = (0, er)) (he : er ≠ 0) (h44 : n + 2 ≤ 44) : Calls Try.prog 32 #[.pointer (some ⟨b, 0, none⟩), .int .i64 t, .int .i64 id] w (Wrapped U w F b t S er n Ta Tb Tc Td) := by
  obtain ⟨hh, hn, hX⟩ := hand_new (t := t) h
  have hbX : Below w.heap.size w (w.alloc (.cells #[.pointer (some ⟨b, 0, none⟩), .int .i64 t, .int .i64 0] 51 (0, 0))) := (Below.refl _ _).alloc (Nat.le_refl _) _
  have hLV := hlevel_any w.heap.size b t 0 51 none S F id _ hX hh hn
  have hHN : HState (w.alloc (.cells #[.pointer (some ⟨b, 0, none⟩), .int .i64 t, .int .i64 0] 51 (0, 0))) F w.heap.size b t 51 none S 0 F (w.alloc (.cells #[.pointer (some ⟨b, 0, none⟩), .int .i64 t, .int .i64 0] 51 (0, 0))) := HState.refl hX hh
  obtain ⟨X0, hX0⟩ : ∃ X, X = w.alloc (.cells #[.pointer (some ⟨b, 0, none⟩), .int .i64 t, .int .i64 0] 51 (0, 0)) := ⟨_, rfl⟩
  rw [← hX0] at hh hX hbX hLV hHN
  have hz0 : X0.heap.size = w.heap.size + 1 := by rw [hX0]; simp
  rw [if_pos rfl, if_pos rfl, hl] at hLV
  obtain ⟨q0, hq0⟩ : ∃ q : Int, q = 0 := ⟨_, rfl⟩
  obtain ⟨q1, hq1⟩ : ∃ q : Int, q = 0 := ⟨_, rfl⟩
  obtain ⟨q2, hq2⟩ : ∃ q : Int, q = 0 := ⟨_, rfl⟩
  obtain ⟨q3, hq3⟩ : ∃ q : Int, q = 0 := ⟨_, rfl⟩
  have HQ := Lib.hid (show I64 q0 ∧ I64 q1 ∧ I64 q2 ∧ I64 q3 by unfold I64; omega)
  have HDD := Lib.hid (fun (e0 : er = 0) => (show Den S.L t n Ta q0 ∧ Den S.L t n Tb q1 ∧ Den S.L t n Tc q2 ∧ Den S.L t n Td q3 from absurd e0 he))
  have HKD := Lib.hid (fun (W : World) (hi : IsAr b S W F) (hhd : HandAt w.heap.size b t er 51 none W) => (by
    have hk := hkids_any w.heap.size b t er 51 none S F id W hi hhd hn
    rw [if_neg he, if_neg he] at hk
    rw [hq0, hq1, hq2, hq3]
    exact hk : Calls Try.prog 28 #[.pointer (some ⟨w.heap.size, 0, none⟩), .int .i64 id] W (HRead W w.heap.size b t 51 none (.agg #[.int .i64 q0, .int .i64 q1, .int .i64 q2, .int .i64 q3]) er)))
  have g1 : (er == 0) = false := by simpa using he
  have g2 : (er != 0) = true := by simpa using he
  have HE := Lib.hid he
  have HNN := Lib.hid h44
  clear hl hq0 hq1 hq2 hq3 he h44
  have HLV := Lib.hid hLV
  have HBX := Lib.hid hbX
  have HX0 := Lib.hid hX0
  have HH0 := Lib.hid hHN
  have HN0 := Lib.hid hn
  have HWF := Lib.hid wf
  have HFL := Lib.hid h.lt
  clear h hh hn hX hbX hLV hHN hX0 wf
  go_enter Try.func32, Try.ntmps32
  go_upto_region 2 with fail
  rw [← HX0.out]
  go_wp2_with fail
  with_reducible refine HLV.out.mono ?_
  rintro e w1 ⟨rfl, hh1, hk1⟩
  have c2 := hh1.c2
  have hst1 : HState X0 F w.heap.size b t 51 none S er F w1 := ⟨HH0.out.1.keep hk1 (fun i hi e => HN0.out (by rw [← e]; exact hi)), hh1, fun i hi => .inl hi, hk1.mono fun i _ e => .inr e⟩
  have HS1 := Lib.hid hst1
  have HK1 := Lib.hid (HKD.out w1 hst1.1 hh1)
  clear hh1 hk1 hst1
  go_wp2_with fail
  with_reducible refine HK1.out.mono ?_
  rintro e w2 ⟨rfl, hh2, hk2⟩
  obtain ⟨X2, hX2⟩ : ∃ X, X = w2.alloc (.cells #[.int .i64 q0, .int .i64 q1, .int .i64 q2, .int .i64 q3] 72 (0, 0)) := ⟨_, rfl⟩
  have hb2 : Below w2.heap.size w2 X2 := by rw [hX2]; exact (Below.refl _ _).alloc (Nat.le_refl _) _
  have hq2 : X2.heap[w2.heap.size]? = some (.cells #[.int .i64 q0, .int .i64 q1, .int .i64 q2, .int .i64 q3] 72 (0, 0)) := by rw [hX2]; exact blk_last w2 _ rfl
  have hst2 : HState X0 F w.heap.size b t 51 none S er F X2 := (HS1.out.trans ⟨HS1.out.1.keep hk2 (fun i hi e => HN0.out (by rw [← e]; exact hi)), hh2, fun i hi => .inl hi, hk2.mono fun i _ e => .inr e⟩).below hb2
  have c3 := hst2.2.1.c2
  have hsz2 := hst2.2.2.2.size
  have hz2 : w2.heap.size < X2.heap.size := by rw [hX2]; simp
  have hww : w.heap.size < w2.heap.size := hh2.lt
  have HS2 := Lib.hid hst2
  have HQ2 := Lib.hid hq2
  have HX2 := Lib.hid hX2
  have HZ2 := Lib.hid hz2
  clear hh2 hk2 hX2 hb2 hq2 hst2 hz2 c2
  go_upto_region 7 with fail
  rw [← HX2.out]
  go_wp2_with fail
  obtain ⟨w3, hw3⟩ : ∃ w3, w3 = X2 := ⟨_, rfl⟩
  subst hw3
  have hee : I64 (0 : Int) := by unfold I64; omega
  have hres3 : Res U t S S er er 0 := Res.refl HWF.out
  have hden3 : er = 0 → Den S.L t n (emptyT n) 0 := fun e => absurd e HE.out
  have hst3 : HState X0 F w.heap.size b t 51 none S er F w3 := HS2.out
  have hg3 : ∀ i, F i → F i ∨ w3.heap.size ≤ i := fun i hi => .inl hi
  have hq3 : w3.heap[w2.heap.size]? = some (.cells #[.int .i64 q0, .int .i64 q1, .int .i64 q2, .int .i64 q3] 72 (0, 0)) := HQ2.out
  have hz3 : w3.heap.size ≤ w3.heap.size := Nat.le_refl _
  obtain ⟨W1, hW1⟩ : ∃ W, W = w3.alloc (.cells #[.int .i64 0, .int .i64 0, .int .i64 0, .int .i64 0] 72 (0, 0)) := ⟨_, rfl⟩
  have hbW : Below w3.heap.size w3 W1 := by rw [hW1]; exact (Below.refl _ _).alloc (Nat.le_refl _) _
  have hP1 : W1.heap[w3.heap.size]? = some (.cells #[.int .i64 0, .int .i64 0, .int .i64 0, .int .i64 0] 72 (0, 0)) := by rw [hW1]; exact blk_last w3 _ rfl
  have hW1z : W1.heap.size = w3.heap.size + 1 := by rw [hW1]; simp
  have hz2' := HZ2.out
  have hlt3 := hst3.2.1.lt
  have hout3 : ¬ F w.heap.size := hst3.out HN0.out (by omega)
  have hi0 : I64 (0 : Int) := by unfold I64; omega
  have hB0 : BS U w3 W1 F w.heap.size b t 51 none S er w3.heap.size S er F 0 (0, 0, 0, 0) W1 := ⟨⟨hst3.1.below hbW, hst3.2.1.keep (hbW.block _ hlt3), fun i hi => .inl hi, Keeps.of_below hbW⟩, fun i hi => .inl hi, Res.refl hres3.wf, fun i _ _ _ => rfl, hP1, ⟨hi0, hi0, hi0, hi0⟩, Nat.le_refl _, ⟨Nat.le_refl _, by omega⟩, hst3.1.lt, ⟨hout3, hlt3⟩⟩
  have HB0 := Lib.hid hB0
  have hqn : ¬ F w2.heap.size := fun e => by
    rcases hg3 _ e with e1 | e1
    · have := HFL.out _ e1; omega
    · omega
  have HQN := Lib.hid hqn
  have HQ0 := Lib.hid (show W1.heap[w2.heap.size]? = some (.cells #[.int .i64 q0, .int .i64 q1, .int .i64 q2, .int .i64 q3] 72 (0, 0)) from (hbW.block _ (lt_of_block hq3)).trans hq3)
  have HW1 := Lib.hid hW1
  have HST3 := Lib.hid hst3
  have HRES3 := Lib.hid hres3
  have HDEN3 := Lib.hid hden3
  have HEE := Lib.hid hee
  have hneq : w2.heap.size < w3.heap.size := by omega
  have HW1Z := Lib.hid (show w3.heap.size < W1.heap.size by omega)
  clear hW1z hst3 hq3 hbW hP1 hW1 hB0 hqn hres3 hden3 hee hg3 c3 hi0 hout3 
  go_upto_region 10 with fail
  rw [← HW1.out]
  go_wp2_with fail
  refine wp_loop_rounds 5 ?_
  rw [rounds_succ]
  have z0 := Joins.cell_of_block HQ0.out 0
  simp at z0
  obtain ⟨Y0, hY0⟩ : ∃ X, X = W1.alloc (.cells #[.int .i64 0, .int .i64 0, .int .i64 0, .int .i64 q0] 72 (0, 0)) := ⟨_, rfl⟩
  have hyb0 : Below W1.heap.size W1 Y0 := by rw [hY0]; exact (Below.refl _ _).alloc (Nat.le_refl _) _
  have hyr0 : Y0.heap[W1.heap.size]? = some (.cells #[.int .i64 0, .int .i64 0, .int .i64 0, .int .i64 q0] 72 (0, 0)) := by rw [hY0]; exact blk_last W1 _ rfl
  have HBY0 := Lib.hid (HB0.out.more hyb0)
  have HQY0 := Lib.hid ((hyb0.block _ (lt_of_block HQ0.out)).trans HQ0.out)
  have y0 := Joins.cell_of_block hyr0 0
  have y1 := Joins.cell_of_block hyr0 1
  have y2 := Joins.cell_of_block hyr0 2
  have y3 := Joins.cell_of_block hyr0 3
  simp at y0 y1 y2 y3
  have hJ0 := hjoin_tree (U := U) w.heap.size b t er 51 none S F (0, 0, 0, q0) n (emptyT n) (emptyT n) (emptyT n) Ta Y0 HBY0.out.st.1 HBY0.out.res.wf HBY0.out.st.2.1 HBY0.out.hand ⟨HEE.out, HEE.out, HEE.out, HQ.out.1⟩ ht (by have := HNN.out; omega) (fun hb0 => by
          have nE := HRES3.out.nil hb0
          exact ⟨HDEN3.out hb0, HDEN3.out hb0, HDEN3.out hb0, (absurd nE HE.out)⟩) (fun e0 => absurd (HRES3.out.nil e0) HE.out)
  unfold fourV at hJ0
  have HJ := Lib.hid hJ0
  have hqw0 : w2.heap.size < W1.heap.size := lt_of_block HQ0.out
  have hpw0 : w3.heap.size < W1.heap.size := lt_of_block HB0.out.blk
  have HYE := Lib.hid hY0
  clear hJ0 hyb0 hyr0 hY0
  go_upto_region 15 with fail
  rw [← HYE.out]
  go_wp2_with fail
  with_reducible refine HJ.out.mono ?_
  rintro e v1 ⟨T1, d1, v, G1, rfl, ⟨hm, _⟩, g1, g2, g3, g4⟩
  obtain ⟨r0, rfl, hr, hres, hden⟩ := hm
  have hfr0 := HBY0.out.free HBY0.out.new.1 HBY0.out.new.2
  have hpb0 := (g4.block w3.heap.size (lt_of_block HBY0.out.blk) (fun e => by rcases e with e | e; exact hfr0.1 e; exact hfr0.2 e)).trans HBY0.out.blk
  have hqb0 := (g4.block w2.heap.size (lt_of_block HQY0.out) (fun e => by
    rcases e with e | e
    · rcases HBY0.out.far _ e with e1 | e1
      · exact HQN.out e1
      · have := HW1Z.out; omega
    · omega)).trans HQY0.out
  have HRS0 := Lib.hid hres
  have HDS0 := Lib.hid hden
  have HB1 := Lib.hid (HBY0.out.step (q' := (r0, 0, 0, 0)) (j := 0) (r := r0) g1 g2 g3 g4 hres rfl ⟨hr, HBY0.out.q64.2.1, HBY0.out.q64.2.2.1, HBY0.out.q64.2.2.2⟩)
  have s0 := Joins.cell_of_block hpb0 0
  simp at s0
  have u0' := Joins.unfrozen_of_block hpb0 0
  obtain ⟨Z1, hZ1⟩ : ∃ X, X = v1.setCell ⟨w3.heap.size, 0, none⟩ (.int .i64 r0) := ⟨_, rfl⟩
  have HQ1 := Lib.hid (show Z1.heap[w2.heap.size]? = some (.cells #[.int .i64 q0, .int .i64 q1, .int .i64 q2, .int .i64 q3] 72 (0, 0)) from by rw [hZ1]; exact (Below.heap_setCell _ _ _ _ (by show w2.heap.size ≠ w3.heap.size; omega)).trans hqb0)
  rw [← hZ1] at HB1
  have HZZ1 := Lib.hid hZ1
  clear g1 g2 g3 g4 hres hden hr hfr0 hpb0 hqb0 hZ1 z0 y0 y1 y2 y3 HJ HYE
  go_upto_region 16 with fail
  rw [← HZZ1.out]
  clear s0 u0'
  go_wp2_with fail
  rw [rounds_succ]
  have z1 := Joins.cell_of_block HQ1.out 1
  simp at z1
  obtain ⟨Y1, hY1⟩ : ∃ X, X = Z1.alloc (.cells #[.int .i64 0, .int .i64 0, .int .i64 q1, .int .i64 0] 72 (0, 0)) := ⟨_, rfl⟩
  have hyb1 : Below Z1.heap.size Z1 Y1 := by rw [hY1]; exact (Below.refl _ _).alloc (Nat.le_refl _) _
  have hyr1 : Y1.heap[Z1.heap.size]? = some (.cells #[.int .i64 0, .int .i64 0, .int .i64 q1, .int .i64 0] 72 (0, 0)) := by rw [hY1]; exact blk_last Z1 _ rfl
  have HBY1 := Lib.hid (HB1.out.more hyb1)
  have HQY1 := Lib.hid ((hyb1.block _ (lt_of_block HQ1.out)).trans HQ1.out)
  have y0 := Joins.cell_of_block hyr1 0
  have y1 := Joins.cell_of_block hyr1 1
  have y2 := Joins.cell_of_block hyr1 2
  have y3 := Joins.cell_of_block hyr1 3
  simp at y0 y1 y2 y3
  have hJ1 := hjoin_tree (U := U) w.heap.size b t d1 51 none T1 G1 (0, 0, q1, 0) n (emptyT n) (emptyT n) Tb (emptyT n) Y1 HBY1.out.st.1 HBY1.out.res.wf HBY1.out.st.2.1 HBY1.out.hand ⟨HEE.out, HEE.out, HQ.out.2.1, HEE.out⟩ ht (by have := HNN.out; omega) (fun hb0 => by
          have n0 := HRS0.out.nil hb0
          have nE := HRES3.out.nil n0
          exact ⟨(HDEN3.out n0).ext (HRS0.out.grew.ext t), (HDEN3.out n0).ext (HRS0.out.grew.ext t), (absurd nE HE.out), (HDEN3.out n0).ext (HRS0.out.grew.ext t)⟩) (fun e0 => absurd (HRES3.out.nil (HRS0.out.nil e0)) HE.out)
  unfold fourV at hJ1
  have HJ := Lib.hid hJ1
  have hqw1 : w2.heap.size < Z1.heap.size := lt_of_block HQ1.out
  have hpw1 : w3.heap.size < Z1.heap.size := lt_of_block HB1.out.blk
  have HYE := Lib.hid hY1
  clear hJ1 hyb1 hyr1 hY1
  go_upto_region 15 with fail
  rw [← HYE.out]
  go_wp2_with fail
  with_reducible refine HJ.out.mono ?_
  rintro e v2 ⟨T2, d2, v, G2, rfl, ⟨hm, _⟩, g1, g2, g3, g4⟩
  obtain ⟨r1, rfl, hr, hres, hden⟩ := hm
  have hfr1 := HBY1.out.free HBY1.out.new.1 HBY1.out.new.2
  have hpb1 := (g4.block w3.heap.size (lt_of_block HBY1.out.blk) (fun e => by rcases e with e | e; exact hfr1.1 e; exact hfr1.2 e)).trans HBY1.out.blk
  have hqb1 := (g4.block w2.heap.size (lt_of_block HQY1.out) (fun e => by
    rcases e with e | e
    · rcases HBY1.out.far _ e with e1 | e1
      · exact HQN.out e1
      · have := HW1Z.out; omega
    · omega)).trans HQY1.out
  have HRS1 := Lib.hid hres
  have HDS1 := Lib.hid hden
  have HB2 := Lib.hid (HBY1.out.step (q' := (r0, r1, 0, 0)) (j := 1) (r := r1) g1 g2 g3 g4 hres rfl ⟨HBY1.out.q64.1, hr, HBY1.out.q64.2.2.1, HBY1.out.q64.2.2.2⟩)
  have s1 := Joins.cell_of_block hpb1 1
  simp at s1
  have u1' := Joins.unfrozen_of_block hpb1 1
  obtain ⟨Z2, hZ2⟩ : ∃ X, X = v2.setCell ⟨w3.heap.size, 1, none⟩ (.int .i64 r1) := ⟨_, rfl⟩
  have HQ2 := Lib.hid (show Z2.heap[w2.heap.size]? = some (.cells #[.int .i64 q0, .int .i64 q1, .int .i64 q2, .int .i64 q3] 72 (0, 0)) from by rw [hZ2]; exact (Below.heap_setCell _ _ _ _ (by show w2.heap.size ≠ w3.heap.size; omega)).trans hqb1)
  rw [← hZ2] at HB2
  have HZZ2 := Lib.hid hZ2
  clear g1 g2 g3 g4 hres hden hr hfr1 hpb1 hqb1 hZ2 z1 y0 y1 y2 y3 HJ HYE
  go_upto_region 16 with fail
  rw [← HZZ2.out]
  clear s1 u1'
  go_wp2_with fail
  rw [rounds_succ]
  have z2 := Joins.cell_of_block HQ2.out 2
  simp at z2
  obtain ⟨Y2, hY2⟩ : ∃ X, X = Z2.alloc (.cells #[.int .i64 0, .int .i64 q2, .int .i64 0, .int .i64 0] 72 (0, 0)) := ⟨_, rfl⟩
  have hyb2 : Below Z2.heap.size Z2 Y2 := by rw [hY2]; exact (Below.refl _ _).alloc (Nat.le_refl _) _
  have hyr2 : Y2.heap[Z2.heap.size]? = some (.cells #[.int .i64 0, .int .i64 q2, .int .i64 0, .int .i64 0] 72 (0, 0)) := by rw [hY2]; exact blk_last Z2 _ rfl
  have HBY2 := Lib.hid (HB2.out.more hyb2)
  have HQY2 := Lib.hid ((hyb2.block _ (lt_of_block HQ2.out)).trans HQ2.out)
  have y0 := Joins.cell_of_block hyr2 0
  have y1 := Joins.cell_of_block hyr2 1
  have y2 := Joins.cell_of_block hyr2 2
  have y3 := Joins.cell_of_block hyr2 3
  simp at y0 y1 y2 y3
  have hJ2 := hjoin_tree (U := U) w.heap.size b t d2 51 none T2 G2 (0, q2, 0, 0) n (emptyT n) Tc (emptyT n) (emptyT n) Y2 HBY2.out.st.1 HBY2.out.res.wf HBY2.out.st.2.1 HBY2.out.hand ⟨HEE.out, HQ.out.2.2.1, HEE.out, HEE.out⟩ ht (by have := HNN.out; omega) (fun hb0 => by
          have n1 := HRS1.out.nil hb0
          have n0 := HRS0.out.nil n1
          have nE := HRES3.out.nil n0
          exact ⟨((HDEN3.out n0).ext (HRS0.out.grew.ext t)).ext (HRS1.out.grew.ext t), (absurd nE HE.out), ((HDEN3.out n0).ext (HRS0.out.grew.ext t)).ext (HRS1.out.grew.ext t), ((HDEN3.out n0).ext (HRS0.out.grew.ext t)).ext (HRS1.out.grew.ext t)⟩) (fun e0 => absurd (HRES3.out.nil (HRS0.out.nil (HRS1.out.nil e0))) HE.out)
  unfold fourV at hJ2
  have HJ := Lib.hid hJ2
  have hqw2 : w2.heap.size < Z2.heap.size := lt_of_block HQ2.out
  have hpw2 : w3.heap.size < Z2.heap.size := lt_of_block HB2.out.blk
  have HYE := Lib.hid hY2
  clear hJ2 hyb2 hyr2 hY2
  go_upto_region 15 with fail
  rw [← HYE.out]
  go_wp2_with fail
  with_reducible refine HJ.out.mono ?_
  rintro e v3 ⟨T3, d3, v, G3, rfl, ⟨hm, _⟩, g1, g2, g3, g4⟩
  obtain ⟨r2, rfl, hr, hres, hden⟩ := hm
  have hfr2 := HBY2.out.free HBY2.out.new.1 HBY2.out.new.2
  have hpb2 := (g4.block w3.heap.size (lt_of_block HBY2.out.blk) (fun e => by rcases e with e | e; exact hfr2.1 e; exact hfr2.2 e)).trans HBY2.out.blk
  have hqb2 := (g4.block w2.heap.size (lt_of_block HQY2.out) (fun e => by
    rcases e with e | e
    · rcases HBY2.out.far _ e with e1 | e1
      · exact HQN.out e1
      · have := HW1Z.out; omega
    · omega)).trans HQY2.out
  have HRS2 := Lib.hid hres
  have HDS2 := Lib.hid hden
  have HB3 := Lib.hid (HBY2.out.step (q' := (r0, r1, r2, 0)) (j := 2) (r := r2) g1 g2 g3 g4 hres rfl ⟨HBY2.out.q64.1, HBY2.out.q64.2.1, hr, HBY2.out.q64.2.2.2⟩)
  have s2 := Joins.cell_of_block hpb2 2
  simp at s2
  have u2' := Joins.unfrozen_of_block hpb2 2
  obtain ⟨Z3, hZ3⟩ : ∃ X, X = v3.setCell ⟨w3.heap.size, 2, none⟩ (.int .i64 r2) := ⟨_, rfl⟩
  have HQ3 := Lib.hid (show Z3.heap[w2.heap.size]? = some (.cells #[.int .i64 q0, .int .i64 q1, .int .i64 q2, .int .i64 q3] 72 (0, 0)) from by rw [hZ3]; exact (Below.heap_setCell _ _ _ _ (by show w2.heap.size ≠ w3.heap.size; omega)).trans hqb2)
  rw [← hZ3] at HB3
  have HZZ3 := Lib.hid hZ3
  clear g1 g2 g3 g4 hres hden hr hfr2 hpb2 hqb2 hZ3 z2 y0 y1 y2 y3 HJ HYE
  go_upto_region 16 with fail
  rw [← HZZ3.out]
  clear s2 u2'
  go_wp2_with fail
  rw [rounds_succ]
  have z3 := Joins.cell_of_block HQ3.out 3
  simp at z3
  obtain ⟨Y3, hY3⟩ : ∃ X, X = Z3.alloc (.cells #[.int .i64 q3, .int .i64 0, .int .i64 0, .int .i64 0] 72 (0, 0)) := ⟨_, rfl⟩
  have hyb3 : Below Z3.heap.size Z3 Y3 := by rw [hY3]; exact (Below.refl _ _).alloc (Nat.le_refl _) _
  have hyr3 : Y3.heap[Z3.heap.size]? = some (.cells #[.int .i64 q3, .int .i64 0, .int .i64 0, .int .i64 0] 72 (0, 0)) := by rw [hY3]; exact blk_last Z3 _ rfl
  have HBY3 := Lib.hid (HB3.out.more hyb3)
  have HQY3 := Lib.hid ((hyb3.block _ (lt_of_block HQ3.out)).trans HQ3.out)
  have y0 := Joins.cell_of_block hyr3 0
  have y1 := Joins.cell_of_block hyr3 1
  have y2 := Joins.cell_of_block hyr3 2
  have y3 := Joins.cell_of_block hyr3 3
  simp at y0 y1 y2 y3
  have hJ3 := hjoin_tree (U := U) w.heap.size b t d3 51 none T3 G3 (q3, 0, 0, 0) n Td (emptyT n) (emptyT n) (emptyT n) Y3 HBY3.out.st.1 HBY3.out.res.wf HBY3.out.st.2.1 HBY3.out.hand ⟨HQ.out.2.2.2, HEE.out, HEE.out, HEE.out⟩ ht (by have := HNN.out; omega) (fun hb0 => by
          have n2 := HRS2.out.nil hb0
          have n1 := HRS1.out.nil n2
          have n0 := HRS0.out.nil n1
          have nE := HRES3.out.nil n0
          exact ⟨(absurd nE HE.out), (((HDEN3.out n0).ext (HRS0.out.grew.ext t)).ext (HRS1.out.grew.ext t)).ext (HRS2.out.grew.ext t), (((HDEN3.out n0).ext (HRS0.out.grew.ext t)).ext (HRS1.out.grew.ext t)).ext (HRS2.out.grew.ext t), (((HDEN3.out n0).ext (HRS0.out.grew.ext t)).ext (HRS1.out.grew.ext t)).ext (HRS2.out.grew.ext t)⟩) (fun e0 => absurd (HRES3.out.nil (HRS0.out.nil (HRS1.out.nil (HRS2.out.nil e0)))) HE.out)
  unfold fourV at hJ3
  have HJ := Lib.hid hJ3
  have hqw3 : w2.heap.size < Z3.heap.size := lt_of_block HQ3.out
  have hpw3 : w3.heap.size < Z3.heap.size := lt_of_block HB3.out.blk
  have HYE := Lib.hid hY3
  clear hJ3 hyb3 hyr3 hY3
  go_upto_region 15 with fail
  rw [← HYE.out]
  go_wp2_with fail
  with_reducible refine HJ.out.mono ?_
  rintro e v4 ⟨T4, d4, v, G4, rfl, ⟨hm, _⟩, g1, g2, g3, g4⟩
  obtain ⟨r3, rfl, hr, hres, hden⟩ := hm
  have hfr3 := HBY3.out.free HBY3.out.new.1 HBY3.out.new.2
  have hpb3 := (g4.block w3.heap.size (lt_of_block HBY3.out.blk) (fun e => by rcases e with e | e; exact hfr3.1 e; exact hfr3.2 e)).trans HBY3.out.blk
  have hqb3 := (g4.block w2.heap.size (lt_of_block HQY3.out) (fun e => by
    rcases e with e | e
    · rcases HBY3.out.far _ e with e1 | e1
      · exact HQN.out e1
      · have := HW1Z.out; omega
    · omega)).trans HQY3.out
  have HRS3 := Lib.hid hres
  have HDS3 := Lib.hid hden
  have HB4 := Lib.hid (HBY3.out.step (q' := (r0, r1, r2, r3)) (j := 3) (r := r3) g1 g2 g3 g4 hres rfl ⟨HBY3.out.q64.1, HBY3.out.q64.2.1, HBY3.out.q64.2.2.1, hr⟩)
  have s3 := Joins.cell_of_block hpb3 3
  simp at s3
  have u3' := Joins.unfrozen_of_block hpb3 3
  obtain ⟨Z4, hZ4⟩ : ∃ X, X = v4.setCell ⟨w3.heap.size, 3, none⟩ (.int .i64 r3) := ⟨_, rfl⟩
  have HQ4 := Lib.hid (show Z4.heap[w2.heap.size]? = some (.cells #[.int .i64 q0, .int .i64 q1, .int .i64 q2, .int .i64 q3] 72 (0, 0)) from by rw [hZ4]; exact (Below.heap_setCell _ _ _ _ (by show w2.heap.size ≠ w3.heap.size; omega)).trans hqb3)
  rw [← hZ4] at HB4
  have HZZ4 := Lib.hid hZ4
  clear g1 g2 g3 g4 hres hden hr hfr3 hpb3 hqb3 hZ4 z3 y0 y1 y2 y3 HJ HYE
  go_upto_region 16 with fail
  rw [← HZZ4.out]
  clear s3 u3'
  go_wp2_with fail
  rw [rounds_succ]
  have y0 := Joins.cell_of_block HB4.out.blk 0
  have y1 := Joins.cell_of_block HB4.out.blk 1
  have y2 := Joins.cell_of_block HB4.out.blk 2
  have y3 := Joins.cell_of_block HB4.out.blk 3
  simp at y0 y1 y2 y3
  have hJ := hjoin_tree (U := U) w.heap.size b t d4 51 none T4 G4 (r0, r1, r2, r3) (n + 1) (.node (emptyT n) (emptyT n) (emptyT n) Ta) (.node (emptyT n) (emptyT n) Tb (emptyT n)) (.node (emptyT n) Tc (emptyT n) (emptyT n)) (.node Td (emptyT n) (emptyT n) (emptyT n)) Z4 HB4.out.st.1 HB4.out.res.wf HB4.out.st.2.1 HB4.out.hand HB4.out.q64 ht (by have := HNN.out; omega) (fun n3 => by
    have n2 := HRS3.out.nil n3
    have n1 := HRS2.out.nil n2
    have n0 := HRS1.out.nil n1
    exact ⟨(((HDS0.out n0).ext (HRS1.out.grew.ext t)).ext (HRS2.out.grew.ext t)).ext (HRS3.out.grew.ext t), ((HDS1.out n1).ext (HRS2.out.grew.ext t)).ext (HRS3.out.grew.ext t), (HDS2.out n2).ext (HRS3.out.grew.ext t), HDS3.out n3⟩) (fun e0 => absurd (HRES3.out.nil (HRS0.out.nil (HRS1.out.nil (HRS2.out.nil (HRS3.out.nil e0))))) HE.out)
  unfold fourV at hJ
  have HJ := Lib.hid hJ
  clear hJ
  go_wp2_with fail
  with_reducible refine HJ.out.mono ?_
  rintro e w5 ⟨S5, b5, v, F5, rfl, ⟨hm, _⟩, g1, g2, g3, g4⟩
  obtain ⟨r, rfl, hr, hres, hden⟩ := hm
  have hstA : HState w3 F w.heap.size b t 51 none S5 b5 F5 w5 := HB4.out.st.trans ⟨g1, g2, g3, g4⟩
  have HS5 := Lib.hid (HST3.out.trans hstA)
  have HR5 := Lib.hid (HRES3.out.trans (HB4.out.res.trans hres))
  have HD5 := Lib.hid hden
  have HI5 := Lib.hid hr
  have HDN := Lib.hid (done_any w.heap.size b t b5 51 none r w5 g2)
  clear g1 g2 g3 g4 hres hden hr hstA y0 y1 y2 y3
  go_wp2_with fail
  with_reducible refine HDN.out.mono ?_
  rintro e w6 ⟨rfl, h6⟩
  obtain ⟨c1', c2', c3'⟩ := (HS5.out.below h6).close HBX.out
  have C1 := Lib.hid c1'
  have C2 := Lib.hid c2'
  have C3 := Lib.hid c3'
  obtain ⟨rr, hrr⟩ : ∃ rr, rr = if b5 = 0 then r else 0 := ⟨_, rfl⟩
  have HRR := Lib.hid hrr
  rw [← hrr]
  clear c1' c2' c3' h6 hrr
  go_wp2_with fail
  go_ret2
  refine ⟨rr, b5, S5, F5, rfl, ?_, HR5.out.more (by omega), fun e5 => ?_, fun e5 => ?_, C1.out, C2.out, C3.out⟩
  · rw [HRR.out]; split
    · exact HI5.out
    · unfold I64; omega
  · rw [HRR.out, if_pos e5]; exact HD5.out e5
  · rw [HRR.out, if_neg e5]
end Go.Proofs.Ytabhpbkkjijfjaa
