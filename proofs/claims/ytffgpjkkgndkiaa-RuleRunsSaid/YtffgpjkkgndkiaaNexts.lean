/-
  rule.Next: the cells that live next.
-/
import Derived.Test.YtffgpjkkgndkiaaNextHold
namespace Go.Proofs.Ytffgpjkkgndkiaa
set_option maxRecDepth 100000
open Go.RowKit

def Nexted (w : World) (b l : Int) (zs : List (Int × Int)) (e : Ending) (w' : World) : Prop :=
  ∃ v, e = .returned (.tuple #[v, .int .i64 (nextF b l zs).2]) ∧ Below w.heap.size w w' ∧ Tight w.heap.size w' v (nextF b l zs).1
theorem make_now (W : World) : (Instr.makeMap 128 none).run Try.prog W = .ok (.map (some W.heap.size)) (W.alloc (.map #[] 0)) := rfl
theorem zeroUnit (u : World) : (zeroValue 115).run Try.prog u = .ok (.agg #[]) u := by kernel_rfl
set_option maxHeartbeats 4000000 in
theorem next_any (rb rl : Int) (zs : List (Int × Int)) (a : Option Addr) (cap : Nat) (w : World) (hs : Sl w 2 16 a zs.length cap (zs.flatMap encCell)) :
    Calls Try.prog 37 #[.agg #[.int .i64 rb, .int .i64 rl], .slice a zs.length cap] w (Nexted w rb rl zs) := by
  have hmm := make_map
  have hmn := make_now
  obtain ⟨⟨xs, e1⟩, hX⟩ : ∃ R, R = tidyF zs := ⟨_, rfl⟩
  have hxl : xs.length ≤ 4096 := by have := tidyF_length zs; rw [← hX] at this; exact this
  have T1 := fun W (h : Sl W 2 16 a zs.length cap (zs.flatMap encCell)) => tidy_any zs a cap W h
  unfold Tidied at T1
  rw [← hX] at T1
  have HT1 := Lib.hid T1
  have HX := Lib.hid hX
  have HS := Lib.hid hs
  have hgd := fun W => good_any rb rl W
  obtain ⟨n, hn⟩ : ∃ n, n = zs.length := ⟨_, rfl⟩
  rw [← hn] at HS HT1 ⊢
  obtain ⟨g, hg⟩ : ∃ g, g = goodF rb rl := ⟨_, rfl⟩
  rw [← hg] at hgd
  have HGD := Lib.hid hgd
  have HG := Lib.hid hg
  clear T1 hX hs hn hgd hg
  cases g
  · have hres : nextF rb rl zs = ([], 4) := by rw [nextF, if_pos HG.out.symm]
    have HR := Lib.hid hres
    clear hres
    go_enter Try.func37, Try.ntmps37
    go_wp2_with fail
    refine (HGD.out _).mono ?_
    rintro e w1 ⟨rfl, hb⟩
    have hB := ((Below.refl w.heap.size w).alloc (Nat.le_refl _) (.cells #[.int .i64 rb, .int .i64 rl] 24)).trans (hb.mono (by simp))
    clear hb
    go_wp2_with fail
    refine bodyPost_ret (v := .tuple #[.slice none 0 0, .int .i64 4]) (by simp [results, Try.results37, go_sem]) rfl ⟨.slice none 0 0, by rw [HR.out], hB, by rw [HR.out]; exact Tight.nil _ _⟩
  · go_enter Try.func37, Try.ntmps37
    go_wp2_with fail
    refine (HGD.out _).mono ?_
    rintro e w0 ⟨rfl, hb⟩
    have hB0 := ((Below.refl w.heap.size w).alloc (Nat.le_refl _) (.cells #[.int .i64 rb, .int .i64 rl] 24)).trans (hb.mono (by simp))
    have hr0 := (hb.block w.heap.size (by simp)).trans (blk_last w _ rfl)
    clear hb
    go_wp2_with fail
    refine (HT1.out _ (HS.out.below (by omega) hB0)).mono ?_
    rintro e w1 ⟨v1, rfl, hb1, ht1⟩
    have hB1 := hB0.trans (hb1.mono hB0.size)
    have hr1 := (hb1.block _ (lt_of_block hr0)).trans hr0
    have C1 := Cut.of_tight ht1 (by omega)
    obtain ⟨a1, c1, rfl, _, _⟩ := ht1.form
    clear hb1 ht1 hB0 hr0
    by_cases he1 : e1 = 0
    · subst he1
      go_wp2_with fail
      have hres : Aside (nextF rb rl zs = tidyF (nextC rb rl xs)) := by
        show _ = _
        rw [nextF, if_neg (by rw [← HG.out]; simp), ← HX.out, if_neg (by simp)]
      obtain ⟨W, hW⟩ : ∃ W, W = (w1.alloc (.map #[] 0)).alloc (.map #[] 0) := ⟨_, rfl⟩
      have M0 : MapOf keyV GoodCell W w1.heap.size 0 (holdV []) := by rw [hW, ← holdV_nil]; exact (MapOf.new keyV GoodCell w1 0).alloc _
      have N0 : MapOf keyV GoodCell W (w1.heap.size + 1) 0 (nowM (.agg #[]) []) := by
        have h := MapOf.new keyV GoodCell (w1.alloc (.map #[] 0)) 0
        rw [show (w1.alloc (Obj.map #[] 0)).heap.size = w1.heap.size + 1 by simp] at h
        rw [hW, ← nowM_nil]; exact h
      have bW : Below w1.heap.size w1 W := by rw [hW]; exact ((Below.refl _ _).alloc (Nat.le_refl _) _).alloc (by simp) _
      have hBo := hB1.trans (bW.mono hB1.size)
      have C1 := C1.below bW
      have hlr1 := lt_of_block hr1
      have hr1 := (bW.block _ (lt_of_block hr1)).trans hr1
      have hws := hB1.size
      obtain ⟨bm, hbm⟩ : ∃ bm, bm = w1.heap.size := ⟨_, rfl⟩
      have hlr : w.heap.size < bm := by rw [hbm]; exact hlr1
      rw [← hbm] at M0 N0 C1 hws ⊢
      rw [← hW]
      have HGX := Lib.hid (tidy_good HX.out)
      have HNR := Lib.hid (tidy_near HX.out)
      have HNX := Lib.hid (rising_nodup (by have := tidyF_rising zs; rw [← HX.out] at this; exact this))
      obtain ⟨nx, hnx⟩ : ∃ nx, nx = xs.length := ⟨_, rfl⟩
      have HLX := Lib.hid hnx
      rw [← hnx] at hxl C1 ⊢
      clear hW hbm hB1 hnx HT1 bW
      go_loopw [35] (fun i wr => ∃ (k q q2 : Nat), i = .int .i64 k ∧ k ≤ nx ∧ MapOf keyV GoodCell wr bm q (holdV ((xs.take k).flatMap nineV)) ∧ MapOf keyV GoodCell wr (bm + 1) q2 (nowM (.agg #[]) (xs.take k)) ∧ Keeps (fun i => bm ≤ i) W wr) (fun i _ => nx - (intOf i).toNat)
      case atStart => exact ⟨0, 0, 0, rfl, Nat.zero_le _, M0, N0, Keeps.refl _ _⟩
      case round =>
        obtain ⟨k, q, q2, rfl, hk, hM, hN, hKp⟩ := hrel
        by_cases hlt : k < nx
        · obtain ⟨x, hx⟩ : ∃ x, xs[k]? = some x := ⟨xs[k]'(by have := HLX.out; omega), by simp⟩
          obtain ⟨b, o, rfl, d0, d1, hbl, hbB⟩ := (C1.keeps hKp).get hx
          obtain ⟨x1, x2⟩ := x
          dsimp only at d0 d1
          have hg := HGX.out _ (List.mem_of_getElem? hx)
          have hNV := hN.alloc (.cells #[.int .i64 x1, .int .i64 x2] 72)
          obtain ⟨st, W1, _, _, _, _, hst⟩ := hNV.entry cell_keyed Try.underlying128 zeroUnit hg
          obtain ⟨W2, _, hmu, hN2, hk2, hz2⟩ := hst (.agg #[])
          unfold keyV at hmu
          dsimp only at hmu
          have b0 : (wr.alloc (.cells #[.int .i64 x1, .int .i64 x2] 72)).cell? ⟨wr.heap.size, 0, none⟩ = some (.int .i64 x1) := Joins.cell_of_block (blk_last _ _ rfl) 0
          have b1 : (wr.alloc (.cells #[.int .i64 x1, .int .i64 x2] 72)).cell? ⟨wr.heap.size, 1, none⟩ = some (.int .i64 x2) := Joins.cell_of_block (blk_last _ _ rfl) 1
          clear hst
          go_wp2_with fail
          have hnr := HNR.out _ (List.mem_of_getElem? hx)
          dsimp only at hnr
          have HXK := Lib.hid hx
          have hM2 : MapOf keyV GoodCell W2 bm q (holdV ((xs.take k).flatMap nineV)) := (hM.alloc (.cells #[.int .i64 x1, .int .i64 x2] 72)).keep (hk2.block bm (by have := hM.lt; simp; omega) (by omega))
          have ht1 : xs.take (k + 1) = xs.take k ++ [(x1, x2)] := by rw [List.take_add_one, hx]; rfl
          rw [nowM_step, ← ht1] at hN2
          have hbx2 := (hk2.block wr.heap.size (by simp) (by have := hN.lt; omega)).trans (blk_last wr (.cells #[.int .i64 x1, .int .i64 x2] 72) rfl)
          have hKp2 := (hKp.alloc (.cells #[.int .i64 x1, .int .i64 x2] 72)).trans hk2 (fun i _ h => by show bm ≤ i; omega)
          obtain ⟨bx, hbxe⟩ : ∃ bx, bx = wr.heap.size := ⟨_, rfl⟩
          have hbxm : bm + 1 < bx := by rw [hbxe]; exact hN.lt
          rw [← hbxe] at hbx2 ⊢
          obtain ⟨A, hA⟩ : ∃ A, A = (xs.take k).flatMap nineV := ⟨_, rfl⟩
          rw [← hA] at hM2
          have HA := Lib.hid hA
          have hA1 : ∀ i, Ones (A ++ (nineV (x1, x2)).take i) := fun i => by rw [hA]; exact ones_take _ _ _
          have hA2 : ∀ i, (A ++ (nineV (x1, x2)).take i).length ≤ 40000 := fun i => by rw [hA]; exact len_take _ _ _ (by rw [List.length_take]; have := HLX.out; omega)
          have HA1 := Lib.hid hA1
          have HA2 := Lib.hid hA2
          clear hA hA1 hA2 hx ht1 hmu b0 b1 d0 d1 hM hN hNV hKp hk2 hz2 hbxe
          go_loopw [12] (fun dy wr => ∃ (p q : Nat), dy = .int .i64 ((p : Int) - 1) ∧ p ≤ 3 ∧ MapOf keyV GoodCell wr bm q (holdV (A ++ (nineV (x1, x2)).take (3 * p))) ∧ MapOf keyV GoodCell wr (bm + 1) (q2 + 1) (nowM (.agg #[]) (xs.take (k + 1))) ∧ wr.heap[bx]? = some (.cells #[.int .i64 x1, .int .i64 x2] 72 (0, 0)) ∧ Keeps (fun i => bm ≤ i) W wr) (fun dy _ => (2 - intOf dy).toNat)
          case atStart => exact ⟨0, q, rfl, by omega, by simpa using hM2, hN2, hbx2, hKp2⟩
          case round =>
            clear hM2 hN2 hbx2 hKp2
            obtain ⟨p, q, rfl, hp, hM, hN, hbx, hKp⟩ := hrel
            by_cases hlt2 : p < 3
            · have hdp : decide ((p : Int) - 1 ≤ 1) = true := by simp; omega
              go_wp2_with fail
              go_loopw [13] (fun dx wr => ∃ (t q : Nat), dx = .int .i64 ((t : Int) - 1) ∧ t ≤ 3 ∧ MapOf keyV GoodCell wr bm q (holdV (A ++ (nineV (x1, x2)).take (3 * p + t))) ∧ MapOf keyV GoodCell wr (bm + 1) (q2 + 1) (nowM (.agg #[]) (xs.take (k + 1))) ∧ wr.heap[bx]? = some (.cells #[.int .i64 x1, .int .i64 x2] 72 (0, 0)) ∧ Keeps (fun i => bm ≤ i) W wr) (fun dx _ => (2 - intOf dx).toNat)
              case atStart => exact ⟨0, q, rfl, by omega, hM, hN, hbx, hKp⟩
              case round =>
                clear hM hN hbx hKp
                obtain ⟨t, q, rfl, ht, hM, hN, hbx, hKp⟩ := hrel
                by_cases hlt3 : t < 3
                · have hnn := ninth_at x1 x2 (p := p) hlt3
                  obtain ⟨i, hi⟩ : ∃ i, i = 3 * p + t := ⟨_, rfl⟩
                  rw [← hi] at hM hnn
                  have hi9 : i < 9 := by omega
                  have hnx := nine_next (V := A) (c := (x1, x2)) hi9
                  rw [hnn] at hnx
                  have hg2 : GoodCell (x1 + ((t : Int) - 1), x2 + ((p : Int) - 1)) := ⟨⟨by show _ ≤ x1 + ((t : Int) - 1); omega, by show x1 + ((t : Int) - 1) ≤ _; omega⟩, ⟨by show _ ≤ x2 + ((p : Int) - 1); omega, by show x2 + ((p : Int) - 1) ≤ _; omega⟩⟩
                  have hMV : MapOf keyV GoodCell wr.drew bm q (holdV (A ++ (nineV (x1, x2)).take i)) := hM.keep rfl
                  have hNV : MapOf keyV GoodCell wr.drew (bm + 1) (q2 + 1) (nowM (.agg #[]) (xs.take (k + 1))) := hN.keep rfl
                  have hl := hMV.look cell_keyed Try.underlying127 zeroInt hg2
                  obtain ⟨st, W1, hme, hM1, hk1, hz1, hst⟩ := hMV.entry cell_keyed Try.underlying127 zeroInt hg2
                  have hl1 := hM1.look cell_keyed Try.underlying127 zeroInt hg2
                  rw [updM_same, Option.getD_some] at hl1
                  rw [holdV_get] at hl hme hl1
                  have hsb := sumV_bound (HA1.out i) (x1 + ((t : Int) - 1), x2 + ((p : Int) - 1))
                  have hsl := HA2.out i
                  have hstep := holdV_step (A ++ (nineV (x1, x2)).take i) (x1 + ((t : Int) - 1), x2 + ((p : Int) - 1))
                  obtain ⟨S, hS⟩ : ∃ S, S = sumV (A ++ (nineV (x1, x2)).take i) (x1 + ((t : Int) - 1), x2 + ((p : Int) - 1)) := ⟨_, rfl⟩
                  rw [← hS] at hl hme hl1 hsb hstep
                  unfold keyV at hl hme hl1
                  dsimp only at hl hme hl1
                  have b0 : wr.drew.cell? ⟨bx, 0, none⟩ = some (.int .i64 x1) := Joins.cell_of_block hbx 0
                  have b1 : wr.drew.cell? ⟨bx, 1, none⟩ = some (.int .i64 x2) := Joins.cell_of_block hbx 1
                  have hs0 : 0 ≤ S ∧ S ≤ 40000 := by omega
                  clear hS hsb hsl hM hN
                  by_cases h1 : t = 1
                  · by_cases h2 : p = 1
                    · have hb1 : ((t : Int) - 1 == 0) = true := by simp; omega
                      have hb2 : ((p : Int) - 1 == 0) = true := by simp; omega
                      rw [show (t : Int) - 1 = 0 by omega, show (p : Int) - 1 = 0 by omega, Int.add_zero, Int.add_zero] at hl hme hl1
                      obtain ⟨W2, hse, _, hM2, hk2, hz2⟩ := hst (.int .i64 (S))
                      have hw : (if i = 4 then (0 : Int) else 1) = 0 := by rw [if_pos (by omega)]
                      rw [hw] at hnx
                      have hst0 := hstep 0
                      rw [Int.add_zero] at hst0
                      rw [hst0, ← hnx] at hM2
                      clear hst0
                      have HM2 := Lib.hid hM2
                      have HN2 := Lib.hid (hNV.keep (hk2.block (bm + 1) hNV.lt (by omega)))
                      have HB2 := Lib.hid ((hk2.block bx (lt_of_block (show wr.drew.heap[bx]? = _ from hbx)) (by omega)).trans (show wr.drew.heap[bx]? = _ from hbx))
                      have HK2 := Lib.hid (hKp.drew.trans hk2 (fun i _ h => by show bm ≤ i; omega))
                      clear hM2 hstep hst hnx hw hNV hMV hM1 hk1 hz1 hk2 hz2 hnn hg2
                      go_wp2_with fail
                      go_region
                      go_wp2_with fail
                      refine ⟨⟨t + 1, q + 1, by go_num, by omega, ?_, HN2.out, HB2.out, HK2.out⟩, by simp [intOf]; omega⟩
                      rw [show 3 * p + (t + 1) = i + 1 by omega]
                      exact HM2.out
                    · have hb1 : ((t : Int) - 1 == 0) = true := by simp; omega
                      have hb2 : ((p : Int) - 1 == 0) = false := by simp; omega
                      rw [show (t : Int) - 1 = 0 by omega, Int.add_zero] at hl hme hl1
                      obtain ⟨W2, hse, _, hM2, hk2, hz2⟩ := hst (.int .i64 (S + 1))
                      have hw : (if i = 4 then (0 : Int) else 1) = 1 := by rw [if_neg (by omega)]
                      rw [hw] at hnx
                      rw [hstep 1, ← hnx] at hM2
                      have HM2 := Lib.hid hM2
                      have HN2 := Lib.hid (hNV.keep (hk2.block (bm + 1) hNV.lt (by omega)))
                      have HB2 := Lib.hid ((hk2.block bx (lt_of_block (show wr.drew.heap[bx]? = _ from hbx)) (by omega)).trans (show wr.drew.heap[bx]? = _ from hbx))
                      have HK2 := Lib.hid (hKp.drew.trans hk2 (fun i _ h => by show bm ≤ i; omega))
                      clear hM2 hstep hst hnx hw hNV hMV hM1 hk1 hz1 hk2 hz2 hnn hg2
                      go_wp2_with fail
                      go_region
                      go_wp2_with fail
                      refine ⟨⟨t + 1, q + 1, by go_num, by omega, ?_, HN2.out, HB2.out, HK2.out⟩, by simp [intOf]; omega⟩
                      rw [show 3 * p + (t + 1) = i + 1 by omega]
                      exact HM2.out
                  · have hb1 : ((t : Int) - 1 == 0) = false := by simp; omega
                    obtain ⟨W2, hse, _, hM2, hk2, hz2⟩ := hst (.int .i64 (S + 1))
                    have hw : (if i = 4 then (0 : Int) else 1) = 1 := by rw [if_neg (by omega)]
                    rw [hw] at hnx
                    rw [hstep 1, ← hnx] at hM2
                    have HM2 := Lib.hid hM2
                    have HN2 := Lib.hid (hNV.keep (hk2.block (bm + 1) hNV.lt (by omega)))
                    have HB2 := Lib.hid ((hk2.block bx (lt_of_block (show wr.drew.heap[bx]? = _ from hbx)) (by omega)).trans (show wr.drew.heap[bx]? = _ from hbx))
                    have HK2 := Lib.hid (hKp.drew.trans hk2 (fun i _ h => by show bm ≤ i; omega))
                    clear hM2 hstep hst hnx hw hNV hMV hM1 hk1 hz1 hk2 hz2 hnn hg2
                    go_wp2_with fail
                    go_region
                    go_wp2_with fail
                    refine ⟨⟨t + 1, q + 1, by go_num, by omega, ?_, HN2.out, HB2.out, HK2.out⟩, by simp [intOf]; omega⟩
                    rw [show 3 * p + (t + 1) = i + 1 by omega]
                    exact HM2.out
                · obtain rfl : t = 3 := by omega
                  have HM := Lib.hid hM
                  clear hM
                  go_wp2_with fail
                  refine ⟨⟨p + 1, q, by go_num, by omega, ?_, hN, hbx, hKp⟩, by simp [intOf]; omega⟩
                  rw [show 3 * (p + 1) = 3 * p + 3 by omega]
                  exact HM.out
            · obtain rfl : p = 3 := by omega
              have hM3 : MapOf keyV GoodCell wr bm q (holdV ((xs.take (k + 1)).flatMap nineV)) := by have h := hM; rwa [show 3 * 3 = 9 from rfl, HA.out, nine_all xs HXK.out] at h
              clear hM
              go_wp2_with fail
              exact ⟨⟨k + 1, q, q2 + 1, by go_num, by omega, hM3, hN, hKp⟩, by simp [intOf]; omega⟩
        · obtain rfl : nx = k := by omega
          have hMf : MapOf keyV GoodCell wr bm q (holdV (xs.flatMap nineV)) := by have h := hM; rwa [HLX.out, List.take_length] at h
          have hNf : MapOf keyV GoodCell wr (bm + 1) q2 (nowM (.agg #[]) xs) := by have h := hN; rwa [HLX.out, List.take_length] at h
          obtain ⟨W3, hrun, hR3, hB3, hz3⟩ := hMf.range (P := Try.prog) Try.underlying127
          have hN3 : MapOf keyV GoodCell W3 (bm + 1) q2 (nowM (.agg #[]) xs) := hNf.keep (hB3.block _ hNf.lt)
          have hr3 := (hB3.block _ (Nat.lt_of_lt_of_le hlr (Nat.le_of_lt hMf.lt))).trans ((hKp.block _ (lt_of_block hr1) (by omega)).trans hr1)
          have hKp3 := hKp.below hB3
          obtain ⟨br, hbr⟩ : ∃ br, br = wr.heap.size := ⟨_, rfl⟩
          have hbmr : bm + 1 < br := by rw [hbr]; exact hNf.lt
          rw [← hbr] at hrun hR3 hz3
          clear hM hN hMf hNf hKp hB3 hbr hlt hk
          go_wp2_with fail
          obtain ⟨i0, hi, hz0, hz1, hz2⟩ := info_parts infoCell
          have hlv := fun (al : Bool) (m : Int) W => lives_any rb rl m al W
          have HLV := Lib.hid hlv
          clear hlv
          go_loopw [15] (fun out wr => ∃ (D L : List (Int × Int)), Ranging keyV GoodCell wr bm br (holdV (xs.flatMap nineV)) D ∧ MapOf keyV GoodCell wr (bm + 1) q2 (nowM (.agg #[]) xs) ∧ Aside (L = D.filter fun d => livesF rb rl (decide (d ∈ xs)) (nearF xs d : Nat)) ∧ wr.ownsRow (br + 1) 72 2 out L.length (L.flatMap encCell) ∧ wr.heap[w.heap.size]? = some (.cells #[.int .i64 rb, .int .i64 rl] 24 (0, 0)) ∧ Keeps (fun i => bm ≤ i) W wr) (fun _ wr => wr.rangeLeft bm br)
          case atStart => exact ⟨[], [], hR3, hN3, rfl, World.ownsRow_nil _ _ _ _, hr3, hKp3⟩
          case round =>
            clear hR3 hN3 hr3 hKp3 hz3 hrun
            obtain ⟨D, L, hR, hN, HL, hown, hr, hKp⟩ := hrel
            obtain ⟨va, vc, rfl⟩ := own_form hown
            have hDn : D.Nodup := by obtain ⟨_, _, _, _, _, _, _, _, _, _, _, _, _, h, _⟩ := hR; exact h
            have hDk : ∀ d ∈ D, d ∈ xs.flatMap nineC := fun d hd => by
              obtain ⟨v, hv⟩ := Ranging.mem cell_keyed hR hd
              rw [holdV, fst_nine] at hv
              split at hv
              · assumption
              · cases hv
            have hDl : D.length ≤ 36864 := by have h1 := nodup_le hDn hDk; rw [nineCs_len] at h1; have := HLX.out; omega
            have hLl : L.length ≤ 36864 := by rw [HL.out]; exact Nat.le_trans (List.length_filter_le _ _) hDl
            have hne := hR.ne
            have hltR := hR.lt
            rcases hR.next (P := Try.prog) cell_keyed 0 with ⟨hnx, hall⟩ | ⟨c, v, W', hg, hf, hnd, hnx, hR', hen, hdec, hk, hzz⟩
            · have hfin : tidyF L = tidyF (nextC rb rl xs) := by
                refine nextC_tidy (by rw [HL.out]; exact hDn.filter _) fun d => ?_
                rw [HL.out, List.mem_filter]
                refine ⟨fun h => ⟨hDk d h.1, h.2⟩, fun h => ⟨?_, h.2⟩⟩
                exact hall d (.int .i64 (sumV (xs.flatMap nineV) d)) (by rw [holdV, fst_nine, if_pos h.1])
              have HR2 := Lib.hid (hres.out.trans hfin.symm)
              have hBe : Below w.heap.size w wr := hBo.trans ((hKp.toBelow (fun i h => h) (by have := M0.lt; omega)).mono hws)
              have hsl := Lib.hid (sl_own_up (bytes := 16) hown (by omega) (by omega) (Below.refl _ _))
              have hRT := fun W h => tidy_any L va vc W h
              unfold Tidied at hRT
              obtain ⟨⟨r, er⟩, hRR⟩ : ∃ R, R = tidyF L := ⟨_, rfl⟩
              rw [← hRR] at hRT
              have HRT := Lib.hid hRT
              have HRR := Lib.hid hRR
              obtain ⟨nl, hnl⟩ : ∃ nl, nl = L.length := ⟨_, rfl⟩
              rw [← hnl] at hsl HRT ⊢
              clear hfin hown hRT hRR hnl hall hR hDk
              go_wp2_with fail
              refine (HRT.out _ hsl.out).mono ?_
              rintro e w5 ⟨v5, rfl, hb5, ht5⟩
              obtain ⟨a5, c5, rfl, _, _⟩ := ht5.form
              have HT5 := Lib.hid (ht5.mono hBe.size)
              have hB5 := hBe.trans (hb5.mono hBe.size)
              clear ht5 hb5
              go_wp2_with fail
              refine bodyPost_ret (v := .tuple #[.slice a5 r.length c5, .int .i64 er]) (by simp [results, Try.results37, go_sem]) rfl ⟨.slice a5 r.length c5, by rw [HR2.out, ← HRR.out], hB5, by rw [HR2.out, ← HRR.out]; exact HT5.out⟩
            · have hv : v = .int .i64 (nearF xs c : Nat) := by
                rw [holdV] at hf
                split at hf
                · rw [sumV_near HNX.out] at hf; exact (Option.some.inj hf).symm
                · cases hf
              subst hv
              obtain ⟨m, hm⟩ : ∃ m, m = nearF xs c := ⟨_, rfl⟩
              have hm8 : m ≤ 8 := by rw [hm]; exact near_le xs c
              rw [← hm] at hf hnx hen
              have hN' : MapOf keyV GoodCell W' (bm + 1) q2 (nowM (.agg #[]) xs) := hN.keep (hk.block (bm + 1) hN.lt (by omega))
              have hlk := (hN'.alloc (.cells #[.int .i64 c.1, .int .i64 c.2] 72)).look_ok (P := Try.prog) cell_keyed Try.underlying128 zeroUnit hg
              have hown' : W'.ownsRow (br + 1) 72 2 (.slice va L.length vc) L.length (L.flatMap encCell) := hown.kept (w' := W') (row := some br) ⟨hk.os, hk.tape, hk.output, hk.size, fun i hi h => hk.block i hi (fun e => h (by rw [e]))⟩ (.inr fun e => by have := (hown.lt br e).1; omega)
              have hr' := (hk.block _ (lt_of_block hr) (by omega)).trans hr
              have hK' := hKp.trans hk (fun i _ h => by show bm ≤ i; omega)
              have hlive : livesF rb rl (decide (c ∈ xs)) (m : Nat) = livesF rb rl (decide (c ∈ xs)) (nearF xs c : Nat) := by rw [hm]
              have hfl : ∀ f : Int × Int → Bool, (D ++ [c]).filter f = D.filter f ++ if f c = true then [c] else [] := fun f => by rw [List.filter_append]; congr 1; by_cases h : f c = true <;> simp [h]
              have HFL := Lib.hid (hfl fun d => livesF rb rl (decide (d ∈ xs)) (nearF xs d : Nat))
              have HLIVE := Lib.hid hlive
              unfold keyV at hnx hen hlk
              have hbn := HLV.out (decide (c ∈ xs)) (m : Nat)
              obtain ⟨al, hal⟩ : ∃ al, al = decide (c ∈ xs) := ⟨_, rfl⟩
              have hsome : (nowM (.agg #[]) xs c).isSome = al := by rw [hal, nowM]; by_cases h : c ∈ xs <;> simp [h]
              have hget : (nowM (.agg #[]) xs c).getD (.agg #[]) = .agg #[] := by rw [nowM]; by_cases h : c ∈ xs <;> simp [h]
              rw [hsome, hget] at hlk
              rw [← hal] at hbn HLIVE
              obtain ⟨lv, hlv⟩ : ∃ lv, lv = livesF rb rl al (m : Nat) := ⟨_, rfl⟩
              rw [← hlv] at hbn HLIVE
              have HBN := Lib.hid hbn
              obtain ⟨c1', c2'⟩ := c
              dsimp only at hnx hen hlk hg hf hnd hR'
              have HZZ := Lib.hid hzz
              have HAL := Lib.hid hal
              have r0 : ((W'.alloc (.cells #[.int .i64 c1', .int .i64 c2'] 72)).alloc (.cells #[] 115)).cell? ⟨w.heap.size, 0, none⟩ = some (.int .i64 rb) := Joins.cell_of_block (blk_alloc (blk_alloc hr' _) _) 0
              have r1 : ((W'.alloc (.cells #[.int .i64 c1', .int .i64 c2'] 72)).alloc (.cells #[] 115)).cell? ⟨w.heap.size, 1, none⟩ = some (.int .i64 rl) := Joins.cell_of_block (blk_alloc (blk_alloc hr' _) _) 1
              clear hN hown hf hnd hfl hlive hal hsome hget hbn hlv hm hR hDk hDn hzz
              go_wp2_with fail
              refine (HBN.out _).mono ?_
              rintro e w6 ⟨rfl, hb6⟩
              have q0 := (hb6.block W'.heap.size (by simp; omega)).trans (blk_alloc (blk_last W' (.cells #[.int .i64 c1', .int .i64 c2'] 72) rfl) _)
              have p0 := Joins.cell_of_block q0 0
              have p1 := Joins.cell_of_block q0 1
              simp at p0 p1
              have b6 : Below W'.heap.size W' w6 := (((Below.refl _ _).alloc (Nat.le_refl _) _).alloc (by simp) _).trans (hb6.mono (by simp; omega))
              have hRlt := hR'.lt
              have HR6 := Lib.hid (hR'.keep (b6.block bm hRlt.2) (b6.block br hRlt.1))
              have HN6 := Lib.hid (hN'.keep (b6.block _ hN'.lt))
              have hown6 := own_below hown' b6
              have hr6 := (b6.block _ (lt_of_block hr')).trans hr'
              have hK6 := hK'.below b6
              have HRL := Lib.hid (rangeLeft_keep (w := W') (w' := w6) (b := bm) (r := br) (b6.block bm hRlt.2) (b6.block br hRlt.1))
              have hsz6 := b6.size
              have hws6 : br + 1 ≤ w6.heap.size := by omega
              have hbr6 : br < w6.heap.size := by omega
              have hbm6 : bm < w6.heap.size := by omega
              have hbn6 : bm + 1 < w6.heap.size := by omega
              clear hR' hN' hown' hr' hK' hb6 b6 r0 r1 hlk hen hnx q0 hk hltR hRlt
              cases lv
              · go_wp2_with fail
                refine ⟨⟨D ++ [(c1', c2')], L, HR6.out, HN6.out, ?_, hown6, hr6, hK6⟩, by rw [HRL.out]; exact hdec⟩
                show _ = _
                rw [HFL.out, ← HAL.out, ← HLIVE.out, ← HL.out]
                simp
              · go_wp2_with (at_builtin; refine wpList_append_lies _ rfl _ _ 22 rfl (br + 1) 72 i0 _ 2 16 Try.underlying22 hi hz0 hz1 hz2 rfl (by omega) (.slice va L.length vc) L.length (L.flatMap encCell) rfl (hown6.alloc _) ⟨w6.heap.size, 0, none⟩ 1 1 [.int .i64 c1', .int .i64 c2'] rfl rfl (news_alloc _ _ _ (by simp)) (by simp [Value.oneCell']) (by omega) (by unfold maxLen; omega) (by omega) (by simp; omega) (w6.heap.size + 1) (by simp) ?_; intro g cap1 w7 hown1 hgrow1 hat1 hlt1)
                have gb : ∀ i, i < w6.heap.size → i ≤ br → w7.heap[i]? = w6.heap[i]? := fun i hi' hle => (hgrow1.block i (by simp; omega) (fun e => by have := (hown6.lt i e.symm).1; omega)).trans (Below.heap_alloc _ _ _ hi')
                refine ⟨⟨D ++ [(c1', c2')], L ++ [(c1', c2')], HR6.out.keep (gb bm hbm6 (by omega)) (gb br hbr6 (Nat.le_refl _)), HN6.out.keep (gb (bm + 1) hbn6 (by omega)), ?_, ?_, (gb _ (lt_of_block hr6) (by omega)).trans hr6, (hK6.alloc _).grown hgrow1 (fun y hy _ => by have := (hown6.lt y hy).1; show bm ≤ y; omega)⟩, by rw [rangeLeft_keep (gb bm hbm6 (by omega)) (gb br hbr6 (Nat.le_refl _)), HRL.out]; exact hdec⟩
                · show _ = _
                  rw [HFL.out, ← HAL.out, ← HLIVE.out, ← HL.out]
                  simp
                · rw [List.length_append, List.flatMap_append]
                  exact hown1
    · have hz : (e1 == 0) = false := by simp [he1]
      have hres : nextF rb rl zs = ([], e1) := by
        rw [nextF, if_neg (by rw [← HG.out]; simp), ← HX.out, if_pos (by simpa using he1)]
      have HR := Lib.hid hres
      clear hres C1
      go_wp2_with fail
      refine bodyPost_ret (v := .tuple #[.slice none 0 0, .int .i64 e1]) (by simp [results, Try.results37, go_sem]) rfl ⟨.slice none 0 0, by rw [HR.out], hB1, by rw [HR.out]; exact Tight.nil _ _⟩
end Go.Proofs.Ytffgpjkkgndkiaa
