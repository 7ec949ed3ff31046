/-
  The document's Next: each cell near a live one is looked at once.
-/
import Derived.Test.YtabhpbkkjijfjaaZLeapSteps44
import Derived.Test.YtabhpbkkjijfjaaZLeapSteps9
namespace Go.Proofs.Ytabhpbkkjijfjaa
set_option maxRecDepth 100000
open Go.RowKit

theorem make_bools (W : World) : (Instr.makeMap 82 none).run Try.prog W = .ok (.map (some W.heap.size)) (W.alloc (.map #[] 0)) := rfl
theorem zeroBool (u : World) : (zeroValue 4).run Try.prog u = .ok (.bool false) u := by kernel_rfl
set_option maxHeartbeats 4000000 in
theorem refNext_any (rb rl : Int) (zs : List (Int × Int)) (a : Option Addr) (cap : Nat) (w : World) (hs : Sl w 2 16 a zs.length cap (zs.flatMap encCell)) :
    Calls Try.prog 18 #[.agg #[.int .i64 rb, .int .i64 rl], .slice a zs.length cap] w (Nexted w rb rl zs) := by
  have hmn := make_bools
  obtain ⟨⟨xs, e1⟩, hX⟩ : ∃ R, R = tidyF zs := ⟨_, rfl⟩
  have hxl : xs.length ≤ 4096 := by have := tidyF_length zs; rw [← hX] at this; exact this
  have T1 := fun W (h : Sl W 2 16 a zs.length cap (zs.flatMap encCell)) => refTidy_any zs a cap W h
  unfold Tidied at T1
  rw [← hX] at T1
  have HT1 := Lib.hid T1
  have HX := Lib.hid hX
  have HS := Lib.hid hs
  have hgd := fun W => refGood_any rb rl W
  obtain ⟨n, hn⟩ : ∃ n, n = zs.length := ⟨_, rfl⟩
  rw [← hn] at HS HT1 ⊢
  obtain ⟨g, hg⟩ : ∃ g, g = goodF rb rl := ⟨_, rfl⟩
  rw [← hg] at hgd
  have HGD := Lib.hid hgd
  have HG := Lib.hid hg
  clear T1 hX hs hn hgd hg
  cases g
  · have hres : nextF rb rl zs = ([], 4) := by rw [nextF, if_pos HG.out.symm]
    have HR := Lib.hid hres
    clear hres
    go_enter Try.func18, Try.ntmps18
    go_wp2_with fail
    refine (HGD.out _).mono ?_
    rintro e w1 ⟨rfl, hb⟩
    have hB := ((Below.refl w.heap.size w).alloc (Nat.le_refl _) (.cells #[.int .i64 rb, .int .i64 rl] 23)).trans (hb.mono (by simp))
    clear hb
    go_wp2_with fail
    refine bodyPost_ret (v := .tuple #[.slice none 0 0, .int .i64 4]) (by simp [results, Try.results18, go_sem]) rfl ⟨.slice none 0 0, by rw [HR.out], hB, by rw [HR.out]; exact Tight.nil _ _⟩
  · go_enter Try.func18, Try.ntmps18
    go_wp2_with fail
    refine (HGD.out _).mono ?_
    rintro e w0 ⟨rfl, hb⟩
    have hB0 := ((Below.refl w.heap.size w).alloc (Nat.le_refl _) (.cells #[.int .i64 rb, .int .i64 rl] 23)).trans (hb.mono (by simp))
    have hr0 := (hb.block w.heap.size (by simp)).trans (blk_last w _ rfl)
    clear hb
    go_wp2_with fail
    refine (HT1.out _ (HS.out.below (by omega) hB0)).mono ?_
    rintro e w1 ⟨v1, rfl, hb1, ht1⟩
    have hB1 := hB0.trans (hb1.mono hB0.size)
    have hr1 := (hb1.block _ (lt_of_block hr0)).trans hr0
    have C1 := Cut.of_tight ht1 (by omega)
    obtain ⟨a1, c1, rfl, _, _⟩ := ht1.form
    clear hb1 ht1 hB0 hr0
    by_cases he1 : e1 = 0
    · subst he1
      go_wp2_with fail
      have hres : Aside (nextF rb rl zs = tidyF (nextC rb rl xs)) := by
        show _ = _
        rw [nextF, if_neg (by rw [← HG.out]; simp), ← HX.out, if_neg (by simp)]
      obtain ⟨W, hW⟩ : ∃ W, W = w1.alloc (.map #[] 0) := ⟨_, rfl⟩
      have N0 : MapOf keyV GoodCell W w1.heap.size 0 (nowM (.bool true) []) := by rw [hW, ← nowM_nil]; exact MapOf.new keyV GoodCell w1 0
      have bW : Below w1.heap.size w1 W := by rw [hW]; exact (Below.refl _ _).alloc (Nat.le_refl _) _
      have hBo := hB1.trans (bW.mono hB1.size)
      have C1 := C1.below bW
      have hlr1 := lt_of_block hr1
      have hr1 := (bW.block _ (lt_of_block hr1)).trans hr1
      have hws := hB1.size
      obtain ⟨bm, hbm⟩ : ∃ bm, bm = w1.heap.size := ⟨_, rfl⟩
      have hlr : w.heap.size < bm := by rw [hbm]; exact hlr1
      rw [← hbm] at N0 C1 hws ⊢
      rw [← hW]
      have HGX := Lib.hid (tidy_good HX.out)
      have HNR := Lib.hid (tidy_near HX.out)
      have HNX := Lib.hid (rising_nodup (by have := tidyF_rising zs; rw [← HX.out] at this; exact this))
      obtain ⟨nx, hnx⟩ : ∃ nx, nx = xs.length := ⟨_, rfl⟩
      have HLX := Lib.hid hnx
      rw [← hnx] at hxl C1 ⊢
      clear hW hbm hB1 hnx HT1 bW
      go_loopw [33] (fun i wr => ∃ (k q : Nat), i = .int .i64 k ∧ k ≤ nx ∧ MapOf keyV GoodCell wr bm q (nowM (.bool true) (xs.take k)) ∧ Keeps (fun i => bm ≤ i) W wr) (fun i _ => nx - (intOf i).toNat)
      case atStart => exact ⟨0, 0, rfl, Nat.zero_le _, N0, Keeps.refl _ _⟩
      case round =>
        obtain ⟨k, q, rfl, hk, hN, hKp⟩ := hrel
        by_cases hlt : k < nx
        · obtain ⟨x, hx⟩ : ∃ x, xs[k]? = some x := ⟨xs[k]'(by have := HLX.out; omega), by simp⟩
          obtain ⟨b, o, rfl, d0, d1, hbl, hbB⟩ := (C1.keeps hKp).get hx
          obtain ⟨x1, x2⟩ := x
          dsimp only at d0 d1
          have hg := HGX.out _ (List.mem_of_getElem? hx)
          have hNV := hN.alloc (.cells #[.int .i64 x1, .int .i64 x2] 39)
          obtain ⟨st, W1, _, _, _, _, hst⟩ := hNV.entry cell_keyed Try.underlying82 zeroBool hg
          obtain ⟨W2, _, hmu, hN2, hk2, hz2⟩ := hst (.bool true)
          unfold keyV at hmu
          dsimp only at hmu
          have b0 : (wr.alloc (.cells #[.int .i64 x1, .int .i64 x2] 39)).cell? ⟨wr.heap.size, 0, none⟩ = some (.int .i64 x1) := Joins.cell_of_block (blk_last _ _ rfl) 0
          have b1 : (wr.alloc (.cells #[.int .i64 x1, .int .i64 x2] 39)).cell? ⟨wr.heap.size, 1, none⟩ = some (.int .i64 x2) := Joins.cell_of_block (blk_last _ _ rfl) 1
          have ht1 : xs.take (k + 1) = xs.take k ++ [(x1, x2)] := by rw [List.take_add_one, hx]; rfl
          rw [nowM_step, ← ht1] at hN2
          have hKp2 := (hKp.alloc (.cells #[.int .i64 x1, .int .i64 x2] 39)).trans hk2 (fun i _ h => by show bm ≤ i; omega)
          clear hst ht1 hx hN hNV hk2 hz2
          go_wp2_with fail
          exact ⟨⟨k + 1, q + 1, by go_num, by omega, hN2, hKp2⟩, by simp [intOf]; omega⟩
        · obtain rfl : nx = k := by omega
          have hNf : MapOf keyV GoodCell wr bm q (nowM (.bool true) xs) := by have h := hN; rwa [HLX.out, List.take_length] at h
          have C1 := C1.keeps hKp
          have hB3 : Below w.heap.size w wr := hBo.trans ((hKp.toBelow (fun i h => h) (by have := N0.lt; omega)).mono hws)
          have hr3 := (hKp.block _ (lt_of_block hr1) (by omega)).trans hr1
          obtain ⟨V, hV⟩ : ∃ V, V = wr := ⟨_, rfl⟩
          subst hV
          obtain ⟨W2, hW2⟩ : ∃ W2, W2 = V.alloc (.map #[] 0) := ⟨_, rfl⟩
          have S0 : MapOf keyV GoodCell W2 V.heap.size 0 (nowM (.bool true) []) := by rw [hW2, ← nowM_nil]; exact MapOf.new keyV GoodCell V 0
          have hB4 : Below w.heap.size w W2 := by rw [hW2]; exact hB3.alloc hB3.size _
          have hN4 : MapOf keyV GoodCell W2 bm q (nowM (.bool true) xs) := by rw [hW2]; exact hNf.alloc _
          have hr4 : W2.heap[w.heap.size]? = some (.cells #[.int .i64 rb, .int .i64 rl] 23 (0, 0)) := by rw [hW2]; exact blk_alloc hr3 _
          have C2 : Cut W2 bm (.slice a1 nx c1) xs := by rw [hW2]; exact C1.below ((Below.refl _ _).alloc (Nat.le_refl _) _)
          have hbmV := hNf.lt
          clear hN hNf hKp hBo hB3 hr3 C1 hlt hk N0 hr1
          go_wp2_with fail
          rw [← hW2]
          obtain ⟨bs, hbs⟩ : ∃ bs, bs = V.heap.size := ⟨_, rfl⟩
          rw [← hbs] at S0 hbmV ⊢
          clear hW2 hbs
          have hlv := fun (al : Bool) (m : Int) W => refLives_any rb rl m al W
          have HLV := Lib.hid hlv
          clear hlv
          obtain ⟨i0, hi, hz0, hz1, hz2⟩ := info_parts infoCell
          obtain ⟨lv, hlvE⟩ : ∃ lv : Int × Int → Bool, lv = fun d => livesF rb rl (decide (d ∈ xs)) (nearF xs d : Nat) := ⟨_, rfl⟩
          have HLVE := Lib.hid hlvE
          clear hlvE
          go_loopw [12, 43] (fun out i wr => ∃ (k q : Nat) (L : List (Int × Int)), i = .int .i64 k ∧ k ≤ nx ∧ MapOf keyV GoodCell wr bs q (nowM (.bool true) ((xs.take k).flatMap nineC)) ∧ wr.ownsRow (bs + 1) 39 2 out L.length (L.flatMap encCell) ∧ Aside (Lived lv ((xs.take k).flatMap nineC) L) ∧ Keeps (fun i => bs ≤ i) W2 wr) (fun _ i _ => nx - (intOf i).toNat)
          case atStart => exact ⟨0, 0, [], rfl, Nat.zero_le _, S0, World.ownsRow_nil _ _ _ _, Lived.nil _, Keeps.refl _ _⟩
          case round =>
            obtain ⟨k, q, L, rfl, hk, hS, hown, HL, hKp⟩ := hrel
            obtain ⟨va, vc, rfl⟩ := own_form hown
            by_cases hlt : k < nx
            · obtain ⟨x, hx⟩ : ∃ x, xs[k]? = some x := ⟨xs[k]'(by have := HLX.out; omega), by simp⟩
              obtain ⟨b, o, rfl, d0, d1, hbl, hbB⟩ := (C2.keeps (hKp.mono (fun i _ h => by show bm ≤ i; have : bs ≤ i := h; omega))).get hx
              obtain ⟨x1, x2⟩ := x
              dsimp only at d0 d1
              have hnr := HNR.out _ (List.mem_of_getElem? hx)
              dsimp only at hnr
              have HXK := Lib.hid hx
              have hbx2 := blk_last wr (.cells #[.int .i64 x1, .int .i64 x2] 39) rfl
              have hS2 := hS.alloc (.cells #[.int .i64 x1, .int .i64 x2] 39)
              have hown2 := hown.alloc (.cells #[.int .i64 x1, .int .i64 x2] 39)
              have hKp2 := hKp.alloc (.cells #[.int .i64 x1, .int .i64 x2] 39)
              have hbsx := hS.lt
              have hne2 : (Value.slice va L.length vc).ownBlock ≠ some wr.heap.size := fun e => by have := (hown.lt _ e).2; omega
              have hbsW := S0.lt
              have hW2l : W2.heap.size ≤ wr.heap.size := hKp.size
              have HS2 := Lib.hid hS2
              have HOWN2 := Lib.hid hown2
              have HKP2 := Lib.hid hKp2
              have HBX2 := Lib.hid hbx2
              clear hx hS hown hKp hS2 hown2 hKp2 hbx2
              go_wp2_with fail
              obtain ⟨bx, hbxe⟩ : ∃ bx, bx = wr.heap.size := ⟨_, rfl⟩
              rw [← hbxe] at hbsx hne2 HBX2 hW2l ⊢
              obtain ⟨A, hA⟩ : ∃ A, A = (xs.take k).flatMap nineC := ⟨_, rfl⟩
              rw [← hA] at HS2 HL
              have HA := Lib.hid hA
              have HA2 := Lib.hid (fun i => show (A ++ (nineC (x1, x2)).take i).length ≤ 40000 by rw [hA]; exact lenC_take _ _ _ (by rw [List.length_take]; have := HLX.out; omega))
              obtain ⟨wq, hwq⟩ : ∃ wq, wq = wr.alloc (.cells #[.int .i64 x1, .int .i64 x2] 39) := ⟨_, rfl⟩
              rw [← hwq] at HS2 HOWN2 HKP2 HBX2 ⊢
              clear hA d0 d1 hbl hbB hbxe hwq
              go_loopw [12, 15] (fun out i wr => ∃ (k q : Nat) (L : List (Int × Int)), i = .int .i64 k ∧ k ≤ 9 ∧ MapOf keyV GoodCell wr bs q (nowM (.bool true) (A ++ (nineC (x1, x2)).take k)) ∧ wr.ownsRow (bs + 1) 39 2 out L.length (L.flatMap encCell) ∧ out.ownBlock ≠ some bx ∧ Aside (Lived lv (A ++ (nineC (x1, x2)).take k) L) ∧ wr.heap[bx]? = some (.cells #[.int .i64 x1, .int .i64 x2] 39 (0, 0)) ∧ Keeps (fun i => bs ≤ i) W2 wr) (fun _ i _ => 9 - (intOf i).toNat)
              case atStart => exact ⟨0, q, L, rfl, by omega, by simpa using HS2.out, HOWN2.out, hne2, by show Lived _ _ _; simpa using HL.out, HBX2.out, HKP2.out⟩
              case round =>
                clear hne2 HS2 HOWN2 HKP2 HBX2 HL
                obtain ⟨i, q, L, rfl, hi9, hS, hown, hneo, HL, hbx, hKp⟩ := hrel
                obtain ⟨va, vc, rfl⟩ := own_form hown
                by_cases hlt3 : i < 9
                · have hnine : ninth (x1, x2) i = (x1 + ((i % 3 : Nat) : Int) - 1, x2 + ((i / 3 : Nat) : Int) - 1) := rfl
                  have hnext := nineC_next (V := A) (c := (x1, x2)) hlt3
                  rw [hnine] at hnext
                  obtain ⟨r, hr⟩ : ∃ r, r = i % 3 := ⟨_, rfl⟩
                  obtain ⟨s, hs'⟩ : ∃ s, s = i / 3 := ⟨_, rfl⟩
                  have hr2 : r ≤ 2 := by omega
                  have hs2 : s ≤ 2 := by omega
                  rw [← hr, ← hs'] at hnext
                  have hmod : Int.tmod (i : Int) 3 = (r : Int) := by rw [hr]; rfl
                  have hdiv : Int.tdiv (i : Int) 3 = (s : Int) := by rw [hs']; rfl
                  have hmod2 : (i : Int) % 3 = (r : Int) := by omega
                  have hdiv2 : (i : Int) / 3 = (s : Int) := by omega
                  obtain ⟨U, hU⟩ : ∃ U, U = A ++ (nineC (x1, x2)).take i := ⟨_, rfl⟩
                  rw [← hU] at hS HL hnext
                  have hUl : U.length ≤ 40000 := by rw [hU]; exact HA2.out i
                  have HLl : L.length ≤ 40000 := Nat.le_trans HL.out.len hUl
                  have hdi : decide ((i : Int) < 9) = true := by simp; omega
                  have hg2 : GoodCell (x1 + (r : Int) - 1, x2 + (s : Int) - 1) := ⟨⟨by show _ ≤ x1 + (r : Int) - 1; omega, by show x1 + (r : Int) - 1 ≤ _; omega⟩, ⟨by show _ ≤ x2 + (s : Int) - 1; omega, by show x2 + (s : Int) - 1 ≤ _; omega⟩⟩
                  have hSV := hS.alloc (.cells #[.int .i64 (x1 + (r : Int) - 1), .int .i64 (x2 + (s : Int) - 1)] 39)
                  have hlk := hSV.look cell_keyed Try.underlying82 zeroBool hg2
                  rw [nowM_bool] at hlk
                  unfold keyV at hlk
                  dsimp only at hlk
                  have b0 : wr.cell? ⟨bx, 0, none⟩ = some (.int .i64 x1) := Joins.cell_of_block hbx 0
                  have b1 : wr.cell? ⟨bx, 1, none⟩ = some (.int .i64 x2) := Joins.cell_of_block hbx 1
                  have hd1 : -1099511627778 < x1 + (r : Int) - 1 ∧ x1 + (r : Int) - 1 < 1099511627778 := by omega
                  have hd2 : -1099511627778 < x2 + (s : Int) - 1 ∧ x2 + (s : Int) - 1 < 1099511627778 := by omega
                  have HS' := Lib.hid hS
                  have HSV := Lib.hid hSV
                  have HOWN := Lib.hid hown
                  have HBX := Lib.hid hbx
                  have HKP := Lib.hid hKp
                  have HN := Lib.hid hnext
                  have hqs : bs < wr.heap.size := hS.lt
                  have hbxl : bx < wr.heap.size := lt_of_block hbx
                  clear hS hSV hown hbx hKp hnext hr hs' hU hnine
                  by_cases hin : (x1 + (r : Int) - 1, x2 + (s : Int) - 1) ∈ U
                  · have hdt : decide ((x1 + (r : Int) - 1, x2 + (s : Int) - 1) ∈ U) = true := by simpa using hin
                    rw [hdt] at hlk
                    have HIN := Lib.hid hin
                    clear hin hdt
                    go_wp2_with fail
                    refine ⟨⟨i + 1, q, L, by go_num, by omega, ?_, HOWN.out.alloc _, hneo, ?_, blk_alloc HBX.out _, HKP.out.alloc _⟩, by simp [intOf]; omega⟩
                    · rw [HN.out, ← nowM_mem HIN.out]; exact HSV.out
                    · show Lived _ _ _
                      rw [HN.out]; exact HL.out.seen HIN.out
                  · have hdt : decide ((x1 + (r : Int) - 1, x2 + (s : Int) - 1) ∈ U) = false := by simpa using hin
                    rw [hdt] at hlk
                    have HIN := Lib.hid hin
                    obtain ⟨st, W3, _, _, _, _, hst⟩ := HSV.out.entry cell_keyed Try.underlying82 zeroBool hg2
                    obtain ⟨W4, _, hmu, hS4, hk4, hz4⟩ := hst (.bool true)
                    rw [nowM_step] at hS4
                    unfold keyV at hmu
                    dsimp only at hmu
                    have HS4 := Lib.hid hS4
                    have HK4 := Lib.hid hk4
                    have HZ4 := Lib.hid hz4
                    clear hin hdt hst hS4 hk4 hz4
                    go_wp2_with fail
                    clear hlk hmu b0 b1 hmod hdiv hmod2 hdiv2
                    obtain ⟨y1, hE1⟩ : ∃ y1, y1 = x1 + (r : Int) - 1 := ⟨_, rfl⟩
                    obtain ⟨y2, hE2⟩ : ∃ y2, y2 = x2 + (s : Int) - 1 := ⟨_, rfl⟩
                    have hk4 := HK4.out
                    have hb4 : W4.heap[wr.heap.size]? = some (.cells #[.int .i64 (x1 + (r : Int) - 1), .int .i64 (x2 + (s : Int) - 1)] 39 (0, 0)) := (hk4.block wr.heap.size (by simp) (by omega)).trans (blk_last wr _ rfl)
                    have hKp4 := (HKP.out.alloc (.cells #[.int .i64 (x1 + (r : Int) - 1), .int .i64 (x2 + (s : Int) - 1)] 39)).trans hk4 (fun i _ h => by show bs ≤ i; omega)
                    have hown4 : W4.ownsRow (bs + 1) 39 2 (.slice va L.length vc) L.length (L.flatMap encCell) := (HOWN.out.alloc (.cells #[.int .i64 (x1 + (r : Int) - 1), .int .i64 (x2 + (s : Int) - 1)] 39)).kept (w' := W4) (row := some bs) ⟨hk4.os, hk4.tape, hk4.output, hk4.size, fun i hi h => hk4.block i hi (fun e => h (by rw [e]))⟩ (.inr fun e => by have := (HOWN.out.lt bs e).1; omega)
                    have hbx4 := (hk4.block bx (by simp; omega) (by omega)).trans (blk_alloc HBX.out (.cells #[.int .i64 (x1 + (r : Int) - 1), .int .i64 (x2 + (s : Int) - 1)] 39))
                    have hn4 : MapOf keyV GoodCell W4 bm _ (nowM (.bool true) xs) := hN4.keep (hKp4.block bm hN4.lt (by omega))
                    have hr5 := (hKp4.block _ (lt_of_block hr4) (by omega)).trans hr4
                    have hwl : wr.heap.size < W4.heap.size := lt_of_block hb4
                    rw [← hE1, ← hE2] at HS4 HN HIN hb4
                    rw [← hE1] at hd1
                    rw [← hE2] at hd2
                    have HS4 := Lib.hid HS4.out
                    have HKP4 := Lib.hid hKp4
                    have HOWN4 := Lib.hid hown4
                    have HBX4 := Lib.hid hbx4
                    obtain ⟨bd, hbd⟩ : ∃ bd, bd = wr.heap.size := ⟨_, rfl⟩
                    rw [← hbd] at hb4 hwl ⊢
                    have hbxd : bx < bd := by omega
                    have p0 : W4.cell? ⟨bd, 0, none⟩ = some (.int .i64 y1) := Joins.cell_of_block hb4 0
                    have p1 : W4.cell? ⟨bd, 1, none⟩ = some (.int .i64 y2) := Joins.cell_of_block hb4 1
                    have HR5 := Lib.hid hr5
                    have HB4 := Lib.hid hb4
                    have HN4 := Lib.hid hn4
                    clear hE1 hE2 hk4 HK4 HZ4 hKp4 hown4 hbx4 hbd hqs hbxl hb4 hr5 hn4 HS' HSV HOWN HBX HKP
                    go_loopw [17, 18] (fun n j w5 => ∃ jn : Nat, n = .int .i64 (nearJ xs (y1, y2) jn : Nat) ∧ j = .int .i64 jn ∧ jn ≤ 9 ∧ w5 = W4) (fun _ j _ => 9 - (intOf j).toNat)
                    case atStart => exact ⟨0, rfl, rfl, by omega, rfl⟩
                    case round =>
                      obtain ⟨j, rfl, rfl, hj9, hw5⟩ := hrel
                      subst hw5
                      by_cases hlt4 : j < 9
                      · have hnj := nearJ_succ xs (y1, y2) j
                        have hml := nearJ_le xs (y1, y2) j
                        obtain ⟨m, hm⟩ : ∃ m, m = nearJ xs (y1, y2) j := ⟨_, rfl⟩
                        rw [← hm] at hnj hml ⊢
                        clear hm
                        by_cases h4 : j = 4
                        · subst h4
                          have hn5 : Aside (nearJ xs (y1, y2) 5 = m) := by show _ = _; rw [hnj]; simp
                          clear hnj
                          go_wp2_with fail
                          exact ⟨⟨5, by rw [hn5.out], by go_num, by omega, by first | rfl | trivial⟩, by simp [intOf]⟩
                        · have hnine : ninth (y1, y2) j = (y1 + ((j % 3 : Nat) : Int) - 1, y2 + ((j / 3 : Nat) : Int) - 1) := rfl
                          rw [hnine] at hnj
                          obtain ⟨r', hr'⟩ : ∃ r', r' = j % 3 := ⟨_, rfl⟩
                          obtain ⟨s', hs'⟩ : ∃ s', s' = j / 3 := ⟨_, rfl⟩
                          have hr2' : r' ≤ 2 := by omega
                          have hs2' : s' ≤ 2 := by omega
                          rw [← hr', ← hs'] at hnj
                          have hmod : Int.tmod (j : Int) 3 = (r' : Int) := by rw [hr']; rfl
                          have hdiv : Int.tdiv (j : Int) 3 = (s' : Int) := by rw [hs']; rfl
                          have hmod2 : (j : Int) % 3 = (r' : Int) := by omega
                          have hdiv2 : (j : Int) / 3 = (s' : Int) := by omega
                          have hg3 : GoodCell (y1 + (r' : Int) - 1, y2 + (s' : Int) - 1) := ⟨⟨by show _ ≤ y1 + (r' : Int) - 1; omega, by show y1 + (r' : Int) - 1 ≤ _; omega⟩, ⟨by show _ ≤ y2 + (s' : Int) - 1; omega, by show y2 + (s' : Int) - 1 ≤ _; omega⟩⟩
                          have hlk := HN4.out.look cell_keyed Try.underlying82 zeroBool hg3
                          rw [nowM_bool] at hlk
                          unfold keyV at hlk
                          dsimp only at hlk
                          obtain ⟨bb, hbb⟩ : ∃ bb, bb = decide ((y1 + (r' : Int) - 1, y2 + (s' : Int) - 1) ∈ xs) := ⟨_, rfl⟩
                          rw [← hbb] at hlk hnj
                          have hj4 : ((j : Int) == 4) = false := by simp; omega
                          have hj4' : decide (j ≠ 4) = true := by simp [h4]
                          rw [hj4', Bool.true_and] at hnj
                          clear hj4' hbb hr' hs' hnine hg3
                          cases bb
                          · have hn5 : Aside (nearJ xs (y1, y2) (j + 1) = m) := by show _ = _; rw [hnj]; simp
                            clear hnj
                            go_wp2_with fail
                            exact ⟨⟨j + 1, by rw [hn5.out], by go_num, by omega, by first | rfl | trivial⟩, by simp [intOf]; omega⟩
                          · have hn5 : Aside (nearJ xs (y1, y2) (j + 1) = m + 1) := by show _ = _; rw [hnj]; simp
                            clear hnj
                            go_wp2_with fail
                            exact ⟨⟨j + 1, by rw [hn5.out]; go_num, by go_num, by omega, by first | rfl | trivial⟩, by simp [intOf]; omega⟩
                      · obtain rfl : j = 9 := by omega
                        rw [nearJ_nine]
                        obtain ⟨m, hm⟩ : ∃ m, m = nearF xs (y1, y2) := ⟨_, rfl⟩
                        have hm8 : m ≤ 8 := by rw [hm]; exact near_le xs _
                        rw [← hm]
                        obtain ⟨al, hal⟩ : ∃ al, al = decide ((y1, y2) ∈ xs) := ⟨_, rfl⟩
                        obtain ⟨lvd, hlvd⟩ : ∃ b, b = livesF rb rl al (m : Nat) := ⟨_, rfl⟩
                        have HLVD : Aside (lv (y1, y2) = lvd) := by show _ = _; rw [HLVE.out, hlvd, hal, hm]
                        have hbn := HLV.out al (m : Nat)
                        rw [← hlvd] at hbn
                        have HBN := Lib.hid hbn
                        have hg4 : GoodCell (y1, y2) := ⟨⟨by show _ ≤ y1; omega, by show y1 ≤ _; omega⟩, ⟨by show _ ≤ y2; omega, by show y2 ≤ _; omega⟩⟩
                        have hlk : ∀ z : Grow _, (Instr.lookup 82 (.map (some bm)) (.agg #[.int .i64 y1, .int .i64 y2]) false).run Try.prog z.val = .ok (.bool al) z.val := fun z => by
                          have h := (HN4.out.keep (z.below.block _ HN4.out.lt)).look (P := Try.prog) cell_keyed Try.underlying82 zeroBool hg4
                          rw [nowM_bool, ← hal] at h
                          exact h
                        have gr0 := Grow.cells (Joins.cell_of_block HR5.out 0)
                        have gr1 := Grow.cells (Joins.cell_of_block HR5.out 1)
                        simp at gr0 gr1
                        have gb0 := Grow.cells p0
                        have gb1 := Grow.cells p1
                        clear hbn hlvd hal hm hg4
                        go_wp2_with fail
                        refine wp_region_grow (by kernel_rfl) (by kernel_rfl) ?_
                        repeat (go_big_quiet_step ((go_at_call 36; with_reducible exact grow_of (HBN.out _))))
                        refine wpQuiet_nil ?_
                        intro _ hw'
                        obtain ⟨z, hz⟩ := hw'
                        subst hz
                        have hS6 := HS4.out.keep (z.below.block _ HS4.out.lt)
                        have hown6 := own_below HOWN4.out z.below
                        have hbx6 := (z.below.block _ (lt_of_block HBX4.out)).trans HBX4.out
                        have hKp6 := HKP4.out.below z.below
                        have c0 := z.cell p0
                        have c1' := z.cell p1
                        have hzs := z.below.size
                        have hbs6 := hS6.lt
                        have hbx6l := lt_of_block hbx6
                        obtain ⟨w6, hw6⟩ : ∃ w6, w6 = z.val := ⟨_, rfl⟩
                        rw [← hw6] at hS6 hown6 hbx6 hKp6 c0 c1' hzs hbs6 hbx6l ⊢
                        have HS6 := Lib.hid hS6
                        have HKP6 := Lib.hid hKp6
                        have HBX6 := Lib.hid hbx6
                        clear hlk gr0 gr1 gb0 gb1 p0 p1 hw6 hS6 hKp6 hbx6 HBN
                        cases lvd
                        · go_wp2_with fail
                          refine ⟨⟨i + 1, q + 1, L, by go_num, by omega, ?_, hown6, hneo, ?_, HBX6.out, HKP6.out⟩, by simp [intOf]; omega⟩
                          · rw [HN.out]; exact HS6.out
                          · show Lived _ _ _
                            rw [HN.out]; exact HL.out.no HLVD.out
                        · go_wp2_with (at_builtin; refine wpList_append_lies _ rfl _ _ 24 rfl (bs + 1) 39 i0 _ 2 16 Try.underlying24 hi hz0 hz1 hz2 rfl (by omega) (.slice va L.length vc) L.length (L.flatMap encCell) rfl (hown6.alloc _) ⟨w6.heap.size, 0, none⟩ 1 1 [.int .i64 y1, .int .i64 y2] rfl rfl (news_alloc _ _ _ (by simp)) (by simp [Value.oneCell']) (by omega) (by unfold maxLen; omega) (by omega) (by simp; omega) (w6.heap.size + 1) (by simp) ?_; intro g cap1 w7 hown1 hgrow1 hat1 hlt1)
                          have gb : ∀ i, i < w6.heap.size → (Value.slice va L.length vc).ownBlock ≠ some i → w7.heap[i]? = w6.heap[i]? := fun i hi' hne => (hgrow1.block i (by simp; omega) (fun e => hne e.symm)).trans (Below.heap_alloc _ _ _ hi')
                          refine ⟨⟨i + 1, q + 1, L ++ [(y1, y2)], by go_num, by omega, ?_, ?_, ?_, ?_, (gb bx hbx6l hneo).trans HBX6.out, (HKP6.out.alloc _).grown hgrow1 (fun y hy _ => by have := (hown6.lt y hy).1; show bs ≤ y; omega)⟩, by simp [intOf]; omega⟩
                          · rw [HN.out]; exact HS6.out.keep (gb bs hbs6 (fun e => by have := (hown6.lt bs e).1; omega))
                          · rw [List.length_append, List.flatMap_append]
                            exact hown1
                          · rcases hat1 with h | h
                            · show some g ≠ some bx; rw [← h]; exact hneo
                            · intro e
                              simp [Value.ownBlock] at e
                              omega
                          · show Lived _ _ _
                            rw [HN.out]; exact HL.out.yes HIN.out HLVD.out
                · obtain rfl : i = 9 := by omega
                  have hS9 : MapOf keyV GoodCell wr bs q (nowM (.bool true) ((xs.take (k + 1)).flatMap nineC)) := by have h := hS; rwa [HA.out, nineC_all xs HXK.out] at h
                  have HL9 : Aside (Lived lv ((xs.take (k + 1)).flatMap nineC) L) := by have h := HL.out; rw [HA.out, nineC_all xs HXK.out] at h; exact h
                  clear hS HL
                  go_wp2_with fail
                  exact ⟨⟨k + 1, q, L, by go_num, by omega, hS9, hown, HL9, hKp⟩, by simp [intOf]; omega⟩
            · obtain rfl : nx = k := by omega
              have hLv : Lived lv (xs.flatMap nineC) L := by have h := HL.out; rwa [HLX.out, List.take_length] at h
              have hLl : L.length ≤ 36864 := by have h1 := hLv.len; rw [nineCs_len] at h1; have := HLX.out; omega
              have hfin : tidyF L = tidyF (nextC rb rl xs) := nextC_tidy hLv.nodup fun d => by rw [hLv.mem, HLVE.out]
              have HR2 := Lib.hid (hres.out.trans hfin.symm)
              have hBe : Below w.heap.size w wr := hB4.trans ((hKp.toBelow (fun i h => h) (by have := S0.lt; omega)).mono (by omega))
              have hsl := Lib.hid (sl_own_up (bytes := 16) hown (by omega) (by omega) (Below.refl _ _))
              have hRT := fun W h => refTidy_any L va vc W h
              unfold Tidied at hRT
              obtain ⟨⟨r, er⟩, hRR⟩ : ∃ R, R = tidyF L := ⟨_, rfl⟩
              rw [← hRR] at hRT
              have HRT := Lib.hid hRT
              have HRR := Lib.hid hRR
              obtain ⟨nl, hnl⟩ : ∃ nl, nl = L.length := ⟨_, rfl⟩
              rw [← hnl] at hsl HRT ⊢
              clear hfin hown hRT hRR hnl hLv HL hS hKp hB4
              go_wp2_with fail
              refine (HRT.out _ hsl.out).mono ?_
              rintro e w5 ⟨v5, rfl, hb5, ht5⟩
              obtain ⟨a5, c5, rfl, _, _⟩ := ht5.form
              have HT5 := Lib.hid (ht5.mono hBe.size)
              have hB5 := hBe.trans (hb5.mono hBe.size)
              clear ht5 hb5
              go_wp2_with fail
              refine bodyPost_ret (v := .tuple #[.slice a5 r.length c5, .int .i64 er]) (by simp [results, Try.results18, go_sem]) rfl ⟨.slice a5 r.length c5, by rw [HR2.out, ← HRR.out], hB5, by rw [HR2.out, ← HRR.out]; exact HT5.out⟩
    · have hz : (e1 == 0) = false := by simp [he1]
      have hres : nextF rb rl zs = ([], e1) := by
        rw [nextF, if_neg (by rw [← HG.out]; simp), ← HX.out, if_pos (by simpa using he1)]
      have HR := Lib.hid hres
      clear hres C1
      go_wp2_with fail
      refine bodyPost_ret (v := .tuple #[.slice none 0 0, .int .i64 e1]) (by simp [results, Try.results18, go_sem]) rfl ⟨.slice none 0 0, by rw [HR.out], hB1, by rw [HR.out]; exact Tight.nil _ _⟩
end Go.Proofs.Ytabhpbkkjijfjaa
