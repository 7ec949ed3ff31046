/-
  quad's put, and Put.
-/
import Derived.Test.YtdmamecfmfhlmaaZQuadPutsQPutMath
namespace Go.Proofs.Ytdmamecfmfhlmaa
set_option maxRecDepth 100000
open Go.RowKit

/-- A block of one's own written. -/
theorem HState.loc {w w1 : World} {F F1 : Nat → Prop} {hb b t : Nat} {ty : TypeId} {rest : Option Value} {S1 : ArS} {b1 : Int} (h : HState w F hb b t ty rest S1 b1 F1 w1) {p : Addr} (h1 : w.heap.size ≤ p.block) (h2 : ¬ F1 p.block) (h3 : hb < w.heap.size) (v : Value) : HState w F hb b t ty rest S1 b1 F1 (w1.setCell p v) :=
  ⟨h.1.keep (G := fun i => i = p.block) (Keeps.setCell (Keeps.refl (fun i => i = p.block) w1) (fun _ => rfl) _) (fun i hi e => h2 (by rw [← e]; exact hi)), h.2.1.other (by omega) _, h.2.2.1, h.2.2.2.setCell (fun hp => absurd hp (by omega)) _⟩
def PutOk (n : Nat) : Prop := ∀ (hb b t : Nat) (ty : TypeId) (rest : Option Value) (S : ArS) (F : Nat → Prop) (T : Tree) (id x y : Int) (al : Bool) (w : World), IsAr b S w F → Wf S.L → HandAt hb b t 0 ty rest w → ¬ F hb → t < 64 → Den S.L t n T id → 0 ≤ x → x < 2 ^ n → 0 ≤ y → y < 2 ^ n →
  Calls Try.prog 48 #[.pointer (some ⟨hb, 0, none⟩), .int .i64 id, .int .i64 x, .int .i64 y, .int .i64 n, .bool al] w (HMut w F hb b t ty rest fun S' bad' v => Made t S 0 n n (putT n x y al T) S' bad' v)
theorem put_zero : PutOk 0 := by
  intro hb b t ty rest S F T id x y al w h wf hh hn ht hd x1 x2 y1 y2
  have HI := Lib.hid h
  have HH := Lib.hid hh
  have HW := Lib.hid wf
  clear h hh wf hd x1 x2 y1 y2
  cases al with
  | true =>
    go_enter Try.func48, Try.ntmps48
    go_wp2_with fail
    go_ret
    exact ⟨S, 0, .int .i64 1, F, rfl, ⟨1, rfl, by unfold I64; omega, Res.refl HW.out, fun _ => rfl⟩, HI.out, HH.out, fun i hi => .inl hi, Keeps.refl _ _⟩
  | false =>
    go_enter Try.func48, Try.ntmps48
    go_wp2_with fail
    go_ret
    exact ⟨S, 0, .int .i64 0, F, rfl, ⟨0, rfl, by unfold I64; omega, Res.refl HW.out, fun _ => rfl⟩, HI.out, HH.out, fun i hi => .inl hi, Keeps.refl _ _⟩
set_option maxHeartbeats 8000000 in
set_option maxRecDepth 100000 in
theorem put_succ (n : Nat) (hlev : n + 1 ≤ 44) (IH : PutOk n) : PutOk (n + 1) := by
  intro hb b t ty rest S F T id x y al w h wf hh hn ht hd x1 x2 y1 y2
  obtain ⟨Ta, Tb, Tc, Td, rfl⟩ : ∃ a b c d, T = .node a b c d := by
    match T, hd with
    | .node a b c d, _ => exact ⟨a, b, c, d, rfl⟩
  have hd0 := hd
  obtain ⟨h2, e, h3, h4, h5, h6, xa, xb, xc, xd⟩ := hd0
  obtain ⟨i, rfl⟩ : ∃ i : Nat, id = i := ⟨id.toNat, by omega⟩
  rw [Int.toNat_natCast] at h3
  have hkd : kidsA S t (i : Int) = ((e.a, e.b, e.c, e.d), 0) := kidsA_yes ht hd.owns (by omega) h3
  have hkids := hkids_any hb b t 0 ty rest S F (i : Int) w h hh hn
  rw [if_pos rfl, if_pos rfl, hkd] at hkids
  unfold fourV at hkids
  simp only at hkids
  obtain ⟨q0, hq0⟩ : ∃ q, q = e.a := ⟨_, rfl⟩
  obtain ⟨q1, hq1⟩ : ∃ q, q = e.b := ⟨_, rfl⟩
  obtain ⟨q2, hq2⟩ : ∃ q, q = e.c := ⟨_, rfl⟩
  obtain ⟨q3, hq3⟩ : ∃ q, q = e.d := ⟨_, rfl⟩
  rw [← hq0] at xa hkids
  rw [← hq1] at xb hkids
  rw [← hq2] at xc hkids
  rw [← hq3] at xd hkids
  have HQ := Lib.hid (show I64 q0 ∧ I64 q1 ∧ I64 q2 ∧ I64 q3 from ⟨xa.i64 h.ok, xb.i64 h.ok, xc.i64 h.ok, xd.i64 h.ok⟩)
  have HDD := Lib.hid ((show Den S.L t n Ta q0 ∧ Den S.L t n Tb q1 ∧ Den S.L t n Tc q2 ∧ Den S.L t n Td q3 from ⟨xa, xb, xc, xd⟩))
  obtain ⟨m, hm⟩ : ∃ m : Nat, m = 2 ^ n := ⟨_, rfl⟩
  have hm2 : (2 : Int) ^ n = (m : Int) := by rw [hm, Int.natCast_pow]; rfl
  have hm3 : (2 : Int) ^ (n + 1) = 2 * (m : Int) := by rw [Int.pow_succ, hm2]; omega
  rw [hm3] at x2 y2
  have hmb : m ≤ 17592186044416 := by
    have : 2 ^ n ≤ 2 ^ 44 := Nat.pow_le_pow_right (by omega) (by omega)
    omega
  have hwr : IntKind.i64.wrap (2 ^ n) = (m : Int) := by
    rw [hm2, IntKind.wrap_i64]; omega
  obtain ⟨lv, hlv⟩ : ∃ lv, lv = n + 1 := ⟨_, rfl⟩
  have hlvI : ((n + 1 : Nat) : Int) = (lv : Int) := by omega
  have hlI : (lv : Int) - 1 = (n : Int) := by omega
  have hlz : ((lv : Int) == 0) = false := by simp; omega
  have hlz2 : (lv == 0) = false := by simp; omega
  rw [hlvI]
  have hnb : n ≤ 43 := by omega
  have hhlt := hh.lt
  have HI := Lib.hid h
  have HH := Lib.hid hh
  have HW := Lib.hid wf
  have HK := Lib.hid hkids
  have HIH := Lib.hid IH
  have HM2 := Lib.hid hm2
  have HFL := Lib.hid h.lt
  have HN := Lib.hid hn
  clear h hh wf hd h2 h3 h4 h5 h6 xa xb xc xd hkd hkids hq0 hq1 hq2 hq3 IH hm hm3 hlv hlvI hlev hn
  go_enter Try.func48, Try.ntmps48
  go_wp2_with fail
  with_reducible refine HK.out.mono ?_
  rintro e w1 ⟨rfl, hh1, hk1⟩
  have hst1 : HState w F hb b t ty rest S 0 F w1 := ⟨HI.out.keep hk1 (fun i hi e => HN.out (by rw [← e]; exact hi)), hh1, fun i hi => .inl hi, hk1.mono fun i _ e => .inr e⟩
  obtain ⟨X, hX⟩ : ∃ X, X = w1.alloc (.cells #[.int .i64 q0, .int .i64 q1, .int .i64 q2, .int .i64 q3] 61 (0, 0)) := ⟨_, rfl⟩
  have hbX : Below w1.heap.size w1 X := by rw [hX]; exact (Below.refl _ _).alloc (Nat.le_refl _) _
  have hqX : X.heap[w1.heap.size]? = some (.cells #[.int .i64 q0, .int .i64 q1, .int .i64 q2, .int .i64 q3] 61 (0, 0)) := by rw [hX]; exact blk_last w1 _ rfl
  have hstX : HState w F hb b t ty rest S 0 F X := hst1.below hbX
  have hw1 : w.heap.size ≤ w1.heap.size := hk1.size
  have hqlt : w1.heap.size < X.heap.size := lt_of_block hqX
  have c0 := Joins.cell_of_block hqX 0
  have c1 := Joins.cell_of_block hqX 1
  have c2 := Joins.cell_of_block hqX 2
  have c3 := Joins.cell_of_block hqX 3
  simp at c0 c1 c2 c3
  have HS := Lib.hid hstX
  have HX := Lib.hid hX
  have HQX := Lib.hid hqX
  clear hh1 hk1 hst1 hX hbX hqX hstX
  go_upto_region 6 with fail
  rw [← HX.out]
  by_cases hx : (m : Int) ≤ x
  · by_cases hy : (m : Int) ≤ y
    · skip
      have hpt : putT (n + 1) x y al (.node Ta Tb Tc Td) = .node Ta Tb Tc (putT n (x - m) (y - m) al Td) := by
        rw [putT, HM2.out, if_pos hx, if_pos hy]
      have HPT := Lib.hid hpt
      have HPU := Lib.hid (HIH.out hb b t ty rest S F Td q3 (x - m) (y - m) al X HS.out.1 HW.out HS.out.2.1 HN.out ht HDD.out.2.2.2 (by omega) (by rw [HM2.out]; omega) (by omega) (by rw [HM2.out]; omega))
      have v1 : decide (x ≥ (m : Int)) = true := decide_eq_true hx
      have v2 : decide ((m : Int) ≤ x) = true := decide_eq_true hx
      have v3 : decide (y ≥ (m : Int)) = true := decide_eq_true hy
      have v4 : decide ((m : Int) ≤ y) = true := decide_eq_true hy
      clear hpt
      go_upto_region 12 with fail
      go_wp2_with fail
      with_reducible refine HPU.out.mono ?_
      rintro e w2 ⟨S2, b2, v, F2, rfl, ⟨r, rfl, hr, hres, hden⟩, g1, g2, g3, g4⟩
      have hq2 : w2.heap[w1.heap.size]? = some (.cells #[.int .i64 q0, .int .i64 q1, .int .i64 q2, .int .i64 q3] 61 (0, 0)) := (g4.block _ hqlt (fun e => by
        rcases e with e | e
        · have := HFL.out _ e; omega
        · omega)).trans HQX.out
      have hF2 : ¬ F2 w1.heap.size := fun e => by
        rcases g3 _ e with e1 | e1
        · have := HFL.out _ e1; omega
        · omega
      have hst2 : HState w F hb b t ty rest S2 b2 F2 w2 := HS.out.trans ⟨g1, g2, g3, g4⟩
      obtain ⟨Z, hZ⟩ : ∃ Z, Z = w2.setCell ⟨w1.heap.size, 3, none⟩ (.int .i64 r) := ⟨_, rfl⟩
      have hstZ : HState w F hb b t ty rest S2 b2 F2 Z := by rw [hZ]; exact hst2.loc (p := ⟨w1.heap.size, 3, none⟩) hw1 hF2 hhlt _
      have hqZ : Z.heap[w1.heap.size]? = some (.cells #[.int .i64 q0, .int .i64 q1, .int .i64 q2, .int .i64 r] 61 (0, 0)) := by rw [hZ]; exact Joins.block_setCell (i := 3) hq2 _
      have s0 := Joins.cell_of_block hq2 3
      simp at s0
      have s1 := Joins.unfrozen_of_block hq2 3
      have d0 := Joins.cell_of_block hqZ 0
      have d1 := Joins.cell_of_block hqZ 1
      have d2 := Joins.cell_of_block hqZ 2
      have d3 := Joins.cell_of_block hqZ 3
      simp at d0 d1 d2 d3
      have hex := hres.grew.ext t
      have hj := hjoin_tree hb b t b2 ty rest S2 F2 (q0, q1, q2, r) n Ta Tb Tc (putT n (x - m) (y - m) al Td) Z hstZ.1 hres.wf hstZ.2.1 (hstZ.out HN.out hhlt) ⟨HQ.out.1, HQ.out.2.1, HQ.out.2.2.1, hr⟩ ht (by omega) (fun hb0 => ⟨HDD.out.1.ext hex, HDD.out.2.1.ext hex, HDD.out.2.2.1.ext hex, hden hb0⟩)
      unfold fourV at hj
      have HJ := Lib.hid hj
      have HST := Lib.hid hstZ
      have HRS := Lib.hid hres
      have HZ := Lib.hid hZ
      have hz1 : w1.heap.size < Z.heap.size := lt_of_block hqZ
      clear hr hres hden g1 g2 g3 g4 hq2 hF2 hst2 hstZ hqZ hex hj hZ c0 c1 c2 c3 hx hy
      go_upto_region 13 with fail
      rw [← HZ.out]
      clear s0 s1
      go_wp2_with fail
      with_reducible refine HJ.out.mono ?_
      rintro e w3 ⟨S3, b3, v, F3, rfl, ⟨⟨r3, rfl, hr3, hres3, hden3⟩, _⟩, g1, g2, g3, g4⟩
      have HS3 : Aside (HState w F hb b t ty rest S3 b3 F3 w3) := HST.out.trans ⟨g1, g2, g3, g4⟩
      have HR3 := Lib.hid (HRS.out.trans hres3)
      have HD3 := Lib.hid hden3
      have HI3 := Lib.hid hr3
      clear hr3 hres3 hden3 g1 g2 g3 g4
      go_wp2_with fail
      go_ret
      exact ⟨S3, b3, _, F3, rfl, ⟨r3, rfl, HI3.out, HR3.out, fun e => by rw [HPT.out]; exact HD3.out e⟩, HS3.out.1, HS3.out.2.1, HS3.out.2.2.1, HS3.out.2.2.2⟩
    · skip
      have hpt : putT (n + 1) x y al (.node Ta Tb Tc Td) = .node Ta (putT n (x - m) (y) al Tb) Tc Td := by
        rw [putT, HM2.out, if_pos hx, if_neg hy]
      have HPT := Lib.hid hpt
      have HPU := Lib.hid (HIH.out hb b t ty rest S F Tb q1 (x - m) (y) al X HS.out.1 HW.out HS.out.2.1 HN.out ht HDD.out.2.1 (by omega) (by rw [HM2.out]; omega) (by omega) (by rw [HM2.out]; omega))
      have v1 : decide (x ≥ (m : Int)) = true := decide_eq_true hx
      have v2 : decide ((m : Int) ≤ x) = true := decide_eq_true hx
      have v3 : decide (y ≥ (m : Int)) = false := decide_eq_false hy
      have v4 : decide ((m : Int) ≤ y) = false := decide_eq_false hy
      clear hpt
      go_upto_region 12 with fail
      go_wp2_with fail
      with_reducible refine HPU.out.mono ?_
      rintro e w2 ⟨S2, b2, v, F2, rfl, ⟨r, rfl, hr, hres, hden⟩, g1, g2, g3, g4⟩
      have hq2 : w2.heap[w1.heap.size]? = some (.cells #[.int .i64 q0, .int .i64 q1, .int .i64 q2, .int .i64 q3] 61 (0, 0)) := (g4.block _ hqlt (fun e => by
        rcases e with e | e
        · have := HFL.out _ e; omega
        · omega)).trans HQX.out
      have hF2 : ¬ F2 w1.heap.size := fun e => by
        rcases g3 _ e with e1 | e1
        · have := HFL.out _ e1; omega
        · omega
      have hst2 : HState w F hb b t ty rest S2 b2 F2 w2 := HS.out.trans ⟨g1, g2, g3, g4⟩
      obtain ⟨Z, hZ⟩ : ∃ Z, Z = w2.setCell ⟨w1.heap.size, 1, none⟩ (.int .i64 r) := ⟨_, rfl⟩
      have hstZ : HState w F hb b t ty rest S2 b2 F2 Z := by rw [hZ]; exact hst2.loc (p := ⟨w1.heap.size, 1, none⟩) hw1 hF2 hhlt _
      have hqZ : Z.heap[w1.heap.size]? = some (.cells #[.int .i64 q0, .int .i64 r, .int .i64 q2, .int .i64 q3] 61 (0, 0)) := by rw [hZ]; exact Joins.block_setCell (i := 1) hq2 _
      have s0 := Joins.cell_of_block hq2 1
      simp at s0
      have s1 := Joins.unfrozen_of_block hq2 1
      have d0 := Joins.cell_of_block hqZ 0
      have d1 := Joins.cell_of_block hqZ 1
      have d2 := Joins.cell_of_block hqZ 2
      have d3 := Joins.cell_of_block hqZ 3
      simp at d0 d1 d2 d3
      have hex := hres.grew.ext t
      have hj := hjoin_tree hb b t b2 ty rest S2 F2 (q0, r, q2, q3) n Ta (putT n (x - m) (y) al Tb) Tc Td Z hstZ.1 hres.wf hstZ.2.1 (hstZ.out HN.out hhlt) ⟨HQ.out.1, hr, HQ.out.2.2.1, HQ.out.2.2.2⟩ ht (by omega) (fun hb0 => ⟨HDD.out.1.ext hex, hden hb0, HDD.out.2.2.1.ext hex, HDD.out.2.2.2.ext hex⟩)
      unfold fourV at hj
      have HJ := Lib.hid hj
      have HST := Lib.hid hstZ
      have HRS := Lib.hid hres
      have HZ := Lib.hid hZ
      have hz1 : w1.heap.size < Z.heap.size := lt_of_block hqZ
      clear hr hres hden g1 g2 g3 g4 hq2 hF2 hst2 hstZ hqZ hex hj hZ c0 c1 c2 c3 hx hy
      go_upto_region 13 with fail
      rw [← HZ.out]
      clear s0 s1
      go_wp2_with fail
      with_reducible refine HJ.out.mono ?_
      rintro e w3 ⟨S3, b3, v, F3, rfl, ⟨⟨r3, rfl, hr3, hres3, hden3⟩, _⟩, g1, g2, g3, g4⟩
      have HS3 : Aside (HState w F hb b t ty rest S3 b3 F3 w3) := HST.out.trans ⟨g1, g2, g3, g4⟩
      have HR3 := Lib.hid (HRS.out.trans hres3)
      have HD3 := Lib.hid hden3
      have HI3 := Lib.hid hr3
      clear hr3 hres3 hden3 g1 g2 g3 g4
      go_wp2_with fail
      go_ret
      exact ⟨S3, b3, _, F3, rfl, ⟨r3, rfl, HI3.out, HR3.out, fun e => by rw [HPT.out]; exact HD3.out e⟩, HS3.out.1, HS3.out.2.1, HS3.out.2.2.1, HS3.out.2.2.2⟩
  · by_cases hy : (m : Int) ≤ y
    · skip
      have hpt : putT (n + 1) x y al (.node Ta Tb Tc Td) = .node Ta Tb (putT n (x) (y - m) al Tc) Td := by
        rw [putT, HM2.out, if_neg hx, if_pos hy]
      have HPT := Lib.hid hpt
      have HPU := Lib.hid (HIH.out hb b t ty rest S F Tc q2 (x) (y - m) al X HS.out.1 HW.out HS.out.2.1 HN.out ht HDD.out.2.2.1 (by omega) (by rw [HM2.out]; omega) (by omega) (by rw [HM2.out]; omega))
      have v1 : decide (x ≥ (m : Int)) = false := decide_eq_false hx
      have v2 : decide ((m : Int) ≤ x) = false := decide_eq_false hx
      have v3 : decide (y ≥ (m : Int)) = true := decide_eq_true hy
      have v4 : decide ((m : Int) ≤ y) = true := decide_eq_true hy
      clear hpt
      go_upto_region 12 with fail
      go_wp2_with fail
      with_reducible refine HPU.out.mono ?_
      rintro e w2 ⟨S2, b2, v, F2, rfl, ⟨r, rfl, hr, hres, hden⟩, g1, g2, g3, g4⟩
      have hq2 : w2.heap[w1.heap.size]? = some (.cells #[.int .i64 q0, .int .i64 q1, .int .i64 q2, .int .i64 q3] 61 (0, 0)) := (g4.block _ hqlt (fun e => by
        rcases e with e | e
        · have := HFL.out _ e; omega
        · omega)).trans HQX.out
      have hF2 : ¬ F2 w1.heap.size := fun e => by
        rcases g3 _ e with e1 | e1
        · have := HFL.out _ e1; omega
        · omega
      have hst2 : HState w F hb b t ty rest S2 b2 F2 w2 := HS.out.trans ⟨g1, g2, g3, g4⟩
      obtain ⟨Z, hZ⟩ : ∃ Z, Z = w2.setCell ⟨w1.heap.size, 2, none⟩ (.int .i64 r) := ⟨_, rfl⟩
      have hstZ : HState w F hb b t ty rest S2 b2 F2 Z := by rw [hZ]; exact hst2.loc (p := ⟨w1.heap.size, 2, none⟩) hw1 hF2 hhlt _
      have hqZ : Z.heap[w1.heap.size]? = some (.cells #[.int .i64 q0, .int .i64 q1, .int .i64 r, .int .i64 q3] 61 (0, 0)) := by rw [hZ]; exact Joins.block_setCell (i := 2) hq2 _
      have s0 := Joins.cell_of_block hq2 2
      simp at s0
      have s1 := Joins.unfrozen_of_block hq2 2
      have d0 := Joins.cell_of_block hqZ 0
      have d1 := Joins.cell_of_block hqZ 1
      have d2 := Joins.cell_of_block hqZ 2
      have d3 := Joins.cell_of_block hqZ 3
      simp at d0 d1 d2 d3
      have hex := hres.grew.ext t
      have hj := hjoin_tree hb b t b2 ty rest S2 F2 (q0, q1, r, q3) n Ta Tb (putT n (x) (y - m) al Tc) Td Z hstZ.1 hres.wf hstZ.2.1 (hstZ.out HN.out hhlt) ⟨HQ.out.1, HQ.out.2.1, hr, HQ.out.2.2.2⟩ ht (by omega) (fun hb0 => ⟨HDD.out.1.ext hex, HDD.out.2.1.ext hex, hden hb0, HDD.out.2.2.2.ext hex⟩)
      unfold fourV at hj
      have HJ := Lib.hid hj
      have HST := Lib.hid hstZ
      have HRS := Lib.hid hres
      have HZ := Lib.hid hZ
      have hz1 : w1.heap.size < Z.heap.size := lt_of_block hqZ
      clear hr hres hden g1 g2 g3 g4 hq2 hF2 hst2 hstZ hqZ hex hj hZ c0 c1 c2 c3 hx hy
      go_upto_region 13 with fail
      rw [← HZ.out]
      clear s0 s1
      go_wp2_with fail
      with_reducible refine HJ.out.mono ?_
      rintro e w3 ⟨S3, b3, v, F3, rfl, ⟨⟨r3, rfl, hr3, hres3, hden3⟩, _⟩, g1, g2, g3, g4⟩
      have HS3 : Aside (HState w F hb b t ty rest S3 b3 F3 w3) := HST.out.trans ⟨g1, g2, g3, g4⟩
      have HR3 := Lib.hid (HRS.out.trans hres3)
      have HD3 := Lib.hid hden3
      have HI3 := Lib.hid hr3
      clear hr3 hres3 hden3 g1 g2 g3 g4
      go_wp2_with fail
      go_ret
      exact ⟨S3, b3, _, F3, rfl, ⟨r3, rfl, HI3.out, HR3.out, fun e => by rw [HPT.out]; exact HD3.out e⟩, HS3.out.1, HS3.out.2.1, HS3.out.2.2.1, HS3.out.2.2.2⟩
    · skip
      have hpt : putT (n + 1) x y al (.node Ta Tb Tc Td) = .node (putT n (x) (y) al Ta) Tb Tc Td := by
        rw [putT, HM2.out, if_neg hx, if_neg hy]
      have HPT := Lib.hid hpt
      have HPU := Lib.hid (HIH.out hb b t ty rest S F Ta q0 (x) (y) al X HS.out.1 HW.out HS.out.2.1 HN.out ht HDD.out.1 (by omega) (by rw [HM2.out]; omega) (by omega) (by rw [HM2.out]; omega))
      have v1 : decide (x ≥ (m : Int)) = false := decide_eq_false hx
      have v2 : decide ((m : Int) ≤ x) = false := decide_eq_false hx
      have v3 : decide (y ≥ (m : Int)) = false := decide_eq_false hy
      have v4 : decide ((m : Int) ≤ y) = false := decide_eq_false hy
      clear hpt
      go_upto_region 12 with fail
      go_wp2_with fail
      with_reducible refine HPU.out.mono ?_
      rintro e w2 ⟨S2, b2, v, F2, rfl, ⟨r, rfl, hr, hres, hden⟩, g1, g2, g3, g4⟩
      have hq2 : w2.heap[w1.heap.size]? = some (.cells #[.int .i64 q0, .int .i64 q1, .int .i64 q2, .int .i64 q3] 61 (0, 0)) := (g4.block _ hqlt (fun e => by
        rcases e with e | e
        · have := HFL.out _ e; omega
        · omega)).trans HQX.out
      have hF2 : ¬ F2 w1.heap.size := fun e => by
        rcases g3 _ e with e1 | e1
        · have := HFL.out _ e1; omega
        · omega
      have hst2 : HState w F hb b t ty rest S2 b2 F2 w2 := HS.out.trans ⟨g1, g2, g3, g4⟩
      obtain ⟨Z, hZ⟩ : ∃ Z, Z = w2.setCell ⟨w1.heap.size, 0, none⟩ (.int .i64 r) := ⟨_, rfl⟩
      have hstZ : HState w F hb b t ty rest S2 b2 F2 Z := by rw [hZ]; exact hst2.loc (p := ⟨w1.heap.size, 0, none⟩) hw1 hF2 hhlt _
      have hqZ : Z.heap[w1.heap.size]? = some (.cells #[.int .i64 r, .int .i64 q1, .int .i64 q2, .int .i64 q3] 61 (0, 0)) := by rw [hZ]; exact Joins.block_setCell (i := 0) hq2 _
      have s0 := Joins.cell_of_block hq2 0
      simp at s0
      have s1 := Joins.unfrozen_of_block hq2 0
      have d0 := Joins.cell_of_block hqZ 0
      have d1 := Joins.cell_of_block hqZ 1
      have d2 := Joins.cell_of_block hqZ 2
      have d3 := Joins.cell_of_block hqZ 3
      simp at d0 d1 d2 d3
      have hex := hres.grew.ext t
      have hj := hjoin_tree hb b t b2 ty rest S2 F2 (r, q1, q2, q3) n (putT n (x) (y) al Ta) Tb Tc Td Z hstZ.1 hres.wf hstZ.2.1 (hstZ.out HN.out hhlt) ⟨hr, HQ.out.2.1, HQ.out.2.2.1, HQ.out.2.2.2⟩ ht (by omega) (fun hb0 => ⟨hden hb0, HDD.out.2.1.ext hex, HDD.out.2.2.1.ext hex, HDD.out.2.2.2.ext hex⟩)
      unfold fourV at hj
      have HJ := Lib.hid hj
      have HST := Lib.hid hstZ
      have HRS := Lib.hid hres
      have HZ := Lib.hid hZ
      have hz1 : w1.heap.size < Z.heap.size := lt_of_block hqZ
      clear hr hres hden g1 g2 g3 g4 hq2 hF2 hst2 hstZ hqZ hex hj hZ c0 c1 c2 c3 hx hy
      go_upto_region 13 with fail
      rw [← HZ.out]
      clear s0 s1
      go_wp2_with fail
      with_reducible refine HJ.out.mono ?_
      rintro e w3 ⟨S3, b3, v, F3, rfl, ⟨⟨r3, rfl, hr3, hres3, hden3⟩, _⟩, g1, g2, g3, g4⟩
      have HS3 : Aside (HState w F hb b t ty rest S3 b3 F3 w3) := HST.out.trans ⟨g1, g2, g3, g4⟩
      have HR3 := Lib.hid (HRS.out.trans hres3)
      have HD3 := Lib.hid hden3
      have HI3 := Lib.hid hr3
      clear hr3 hres3 hden3 g1 g2 g3 g4
      go_wp2_with fail
      go_ret
      exact ⟨S3, b3, _, F3, rfl, ⟨r3, rfl, HI3.out, HR3.out, fun e => by rw [HPT.out]; exact HD3.out e⟩, HS3.out.1, HS3.out.2.1, HS3.out.2.2.1, HS3.out.2.2.2⟩
theorem hput_any : ∀ n, n ≤ 44 → PutOk n
  | 0, _ => put_zero
  | n + 1, h => put_succ n h (hput_any n (by omega))

end Go.Proofs.Ytdmamecfmfhlmaa
