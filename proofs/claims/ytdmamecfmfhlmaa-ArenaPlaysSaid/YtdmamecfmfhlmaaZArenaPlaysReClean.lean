/-
  ref.Store's Clean.
-/
import Derived.Test.YtdmamecfmfhlmaaZArenaPlays45
namespace Go.Proofs.Ytdmamecfmfhlmaa
set_option maxRecDepth 100000
open Go.RowKit

def CleanedR (b : Nat) (S : RSt) (F : Nat → Prop) (t : Nat) (rs : List Int) (w : World) (e : Ending) (w' : World) : Prop :=
  ∃ K, (∀ i, i ∈ K ↔ RReach S.T (okR S t) rs i) ∧ Mut w F (IsRe b (loseR S t (cleanF K))) (.int .i64 (lostN S.T t (cleanF K) : Nat)) e w'
set_option maxHeartbeats 8000000 in
set_option maxRecDepth 100000 in
theorem cleanR_in (b : Nat) (S : RSt) (arr : Array Value) (v1 : Value) (vs : List Value) (F : Nat → Prop) (t : Nat) (rs : List Int) (A : Option Addr) (n cp M : Nat) (w : World) (h : ReAt b S arr v1 vs w F) (ht : t < 64) (hS : ReGood S) (hid : ∀ p ∈ S.T, p.1 < 1000000)
    (hs : Src w 1 A n (rs.map intV)) (h64 : ∀ r ∈ rs, I64 r) (hn : n ≤ 1000000) (hrg : ∀ i, RReach S.T (okR S t) rs i → 0 ≤ i ∧ i < (M : Int)) :
    Calls Try.prog 72 #[.pointer (some ⟨b, 0, none⟩), .int .i64 t, .slice A n cp] w (CleanedR b S F t rs w) := by
  have HT := Lib.hid (person_in t ht)
  obtain ⟨av, c, hv1, -⟩ := h.list.form
  have hfew := h.few
  obtain ⟨N, hN⟩ : ∃ N, N = S.T.length := ⟨_, rfl⟩
  rw [← hN] at hv1 hfew
  have hrn : rs.length = n := by have := hs.1; simpa using this
  obtain ⟨mb, hmb⟩ : ∃ mb, mb = w.heap.size := ⟨_, rfl⟩
  obtain ⟨W1, hW1⟩ : ∃ W, W = (w.alloc (.map #[] 0)).alloc (.cells #[.map (some mb)] 138) := ⟨_, rfl⟩
  have hb1 : Below w.heap.size w W1 := by rw [hW1]; exact ((Below.refl _ _).alloc (Nat.le_refl _) _).alloc (by simp) _
  have hST : KeepSt mb (mb + 1) S.T (okR S t) rs [] W1 := by
    refine ⟨⟨0, ?_⟩, ?_, fun i hi => by cases hi⟩
    · have h0 := MapOf.new intV I64 w 0
      rw [← hmb] at h0
      rw [hW1]
      exact h0.alloc _
    · rw [hW1, hmb]
      exact blk_last _ _ (by simp)
  have HST := Lib.hid hST
  have HW1 := Lib.hid hW1
  have HB1 := Lib.hid hb1
  have HA := Lib.hid h
  have HV1 := Lib.hid hv1
  have HN := Lib.hid hN
  have HRN := Lib.hid hrn
  have HSG := Lib.hid hS
  have HIDS := Lib.hid hid
  have HSRC := Lib.hid hs
  have H64 := Lib.hid h64
  have HRG := Lib.hid hrg
  have hmk : ∀ W : World, (Instr.makeMap 138 none).run Try.prog W = .ok (.map (some W.heap.size)) (W.alloc (.map #[] 0)) := fun W => rfl
  have HZ1 := Lib.hid (show w.heap.size + 2 ≤ W1.heap.size by rw [hW1]; simp)
  have ht0 : (0 : Int) ≤ t := by omega
  have htI : (t : Int) < 64 := by omega
  have HMB := Lib.hid hmb
  clear h hv1 hN hrn hS hid hs h64 hrg hW1 hb1 hST
  go_enter Try.func72, Try.ntmps72
  go_wp2_with fail
  refine (HT.out _).mono ?_
  rintro e w1 ⟨rfl, hw1⟩
  rw [hw1]
  clear hw1 w1
  go_upto_region 4 with fail
  rw [← hmb, ← HW1.out]
  clear hmk hmb
  go_wp2_with fail
  go_loopw [9, 10, 11, 23] (fun _ _ _ iv ws => ∃ (k : Nat) (K : List Int), iv = .int .i64 k ∧ k ≤ n ∧ Aside (KeepSt mb (mb + 1) S.T (okR S t) rs K ws) ∧ Aside (∀ r ∈ rs.take k, okR S t r = true → r ∈ K) ∧ Below w.heap.size w ws ∧ W1.heap.size ≤ ws.heap.size) (fun _ _ _ iv _ => n - (intOf iv).toNat)
  case atStart => exact ⟨0, [], rfl, Nat.zero_le _, HST.out, (show ∀ r ∈ rs.take 0, okR S t r = true → r ∈ [] from fun r hr => by cases hr), HB1.out, Nat.le_refl _⟩
  case round =>
    obtain ⟨k, K, rfl, hkn, HKS, HRT, hbl, hsz⟩ := hrel
    by_cases hk : k < n
    · obtain ⟨x, hx⟩ : ∃ x, rs[k]? = some x := ⟨_, List.getElem?_eq_getElem (by rw [HRN.out]; exact hk)⟩
      obtain ⟨ad, hAd, hcells⟩ := HSRC.out.2 (by omega)
      have hex := hcells k (.int .i64 x) (by rw [List.getElem?_map, hx]; rfl)
      have hexW : wr.cell? (ad.add k) = some (.int .i64 x) := (hbl.cell (World.block_lt_of_cell? w _ hex)).trans hex
      have HO := Lib.hid (owned_any b S arr v1 vs F t x 0 wr (HA.out.below hbl) ht)
      have hx64 := H64.out x (List.mem_of_getElem? hx)
      have u1 : decide ((k : Int) < (n : Int)) = true := decide_eq_true (by omega)
      have u2 : decide (k < n) = true := decide_eq_true hk
      obtain ⟨p, hp⟩ : ∃ p, p = ownR S.T t x 0 := ⟨_, rfl⟩
      rw [← hp] at HO
      have HPK := Lib.hid (show okR S t x = p.2 by unfold okR; rw [← hp])
      obtain ⟨⟨pi, xk, xa, xb, xc, xd, xl, xv, xm⟩, ok⟩ := p
      unfold thingV at HO
      simp only at HO HPK
      have HXX := Lib.hid hx
      have HBL := Lib.hid hbl
      obtain rfl := hAd
      clear hx hcells hex hp hbl
      cases ok with
      | false =>
        have HR2 : Aside (∀ r ∈ rs.take (k + 1), okR S t r = true → r ∈ K) := fun r hr ho => by
          rw [List.take_add_one, HXX.out] at hr
          rcases List.mem_append.1 hr with hr | hr
          · exact HRT.out r hr ho
          · obtain rfl : r = x := by simpa using hr
            rw [HPK.out] at ho
            cases ho
        go_wp2_with fail
        with_reducible refine HO.out.mono ?_
        rintro e w2 ⟨rfl, hb2⟩
        have HB2 := Lib.hid hb2
        clear hb2
        go_wp2_with fail
        have hz2 := HB2.out.size
        exact ⟨⟨k + 1, K, by go_num, hk, (HKS.out.below HB2.out).below ((Below.refl _ _).alloc (Nat.le_refl _) _), HR2, (HBL.out.trans (HB2.out.mono HBL.out.size)).alloc (Nat.le_trans HBL.out.size hz2) _, by simp; omega⟩, by simp [intOf]; omega⟩
      | true =>
        have hrr : RReach S.T (okR S t) rs x := .root (List.mem_of_getElem? HXX.out) HPK.out
        have HRR := Lib.hid hrr
        have HR2 : Aside (∀ r ∈ rs.take (k + 1), okR S t r = true → r ∈ (if x ∈ K then K else x :: K)) := fun r hr ho => by
          have hsub : ∀ y, y ∈ K → y ∈ (if x ∈ K then K else x :: K) := fun y hy => by
            split
            · exact hy
            · exact List.mem_cons_of_mem _ hy
          rw [List.take_add_one, HXX.out] at hr
          rcases List.mem_append.1 hr with hr | hr
          · exact hsub r (HRT.out r hr ho)
          · obtain rfl : r = x := by simpa using hr
            split
            · assumption
            · exact List.mem_cons_self
        clear hrr
        go_wp2_with fail
        with_reducible refine HO.out.mono ?_
        rintro e w2 ⟨rfl, hb2⟩
        obtain ⟨Y, hY⟩ : ∃ Y, Y = w2.alloc (.cells #[.int .i64 pi, .int .i64 xk, .int .i64 xl, .int .i64 xv, .int .i64 xa, .int .i64 xb, .int .i64 xc, .int .i64 xd, .int .u64 xm] 118) := ⟨_, rfl⟩
        have hbY : Below w.heap.size w Y := by rw [hY]; exact (HBL.out.trans (hb2.mono HBL.out.size)).alloc (Nat.le_trans HBL.out.size hb2.size) _
        have hKY : KeepSt mb (mb + 1) S.T (okR S t) rs K Y := by rw [hY]; exact (HKS.out.below hb2).below ((Below.refl _ _).alloc (Nat.le_refl _) _)
        have hzY : W1.heap.size ≤ Y.heap.size := by have := hb2.size; rw [hY]; simp; omega
        obtain ⟨Z, hput, hKZ, hkz, hzz⟩ := hKY.put hx64 HRR.out
        have d0 : Y.cell? ⟨mb + 1, 0, none⟩ = some (.map (some mb)) := Joins.cell_of_block hKY.box 0
        have HYE := Lib.hid hY
        have HBZ := Lib.hid (show Below w.heap.size w Z from hbY.trans (hkz.toBelow (fun i e => by rw [e, HMB.out]; exact Nat.le_refl _) hbY.size))
        have HKZ := Lib.hid hKZ
        have hzZ : W1.heap.size ≤ Z.heap.size := by omega
        clear hb2 hY hbY hKY hKZ hkz hzz hzY
        go_upto_region 8 with fail
        rw [← HYE.out]
        go_wp2_with fail
        exact ⟨⟨k + 1, _, by go_num, hk, HKZ.out, HR2, HBZ.out, hzZ⟩, by simp [intOf]; omega⟩
    · have u1 : decide ((k : Int) < (n : Int)) = false := decide_eq_false (by omega)
      have u2 : decide (k < n) = false := decide_eq_false hk
      have HRT2 := Lib.hid (show ∀ r ∈ rs, okR S t r = true → r ∈ K by
        have := HRT.out
        rwa [List.take_of_length_le (by rw [HRN.out]; omega)] at this)
      have HBL := Lib.hid hbl
      clear hbl
      obtain ⟨V, hV⟩ : ∃ V, V = wr := ⟨_, rfl⟩
      subst hV
      go_wp2_with fail
      go_loopw [12, 14, 16] (fun agv _ _ ws => ∃ (K : List Int) (ag : Bool), agv = .bool ag ∧ Aside (KeepSt mb (mb + 1) S.T (okR S t) rs K ws) ∧ Aside (∀ r ∈ rs, okR S t r = true → r ∈ K) ∧ Aside (ag = false → ∀ p ∈ S.T, ClosedAt K p) ∧ Below w.heap.size w ws ∧ W1.heap.size ≤ ws.heap.size) (fun agv _ _ ws => 2 * (M - keptN ws mb M) + boolN agv)
      case atStart => exact ⟨K, true, rfl, HKS, HRT2.out, (show true = false → ∀ p ∈ S.T, ClosedAt K p from fun e => by cases e), HBL.out, hsz⟩
      case round =>
        obtain ⟨K1, ag, rfl, HKS, HRT, HCL, hbl, hsz⟩ := hrel
        cases ag with
        | false =>
          have hnot : ∀ i, w.heap.size ≤ i → ¬ v1.ownBlock = some i := fun i hi e => by
            have := HA.out.lt i (HA.out.f1 i e)
            omega
          have hL := loseR_any 94 (.inr rfl) (mb + 1) b S arr v1 vs F t (cleanF K1) wr (HA.out.below hbl) ht (fun p hp W hk => cleanSees p mb (mb + 1) S.T (okR S t) rs K1 W (HKS.out.keep hk (hnot mb (by rw [HMB.out]; exact Nat.le_refl _)) (hnot (mb + 1) (by rw [HMB.out]; omega))) (HIDS.out p hp)) HSG.out.mask
          have HL := Lib.hid hL
          have HBL2 := Lib.hid hbl
          have HIFF := Lib.hid (show ∀ i, i ∈ K1 ↔ RReach S.T (okR S t) rs i from fun i => ⟨HKS.out.all i, reach_kept HRT.out (HCL.out rfl)⟩)
          clear hL hbl hnot
          go_wp2_with fail
          with_reducible refine HL.out.mono ?_
          rintro e w5 ⟨rfl, F', h1, h2, h3⟩
          have H1 := Lib.hid h1
          have H2 := Lib.hid h2
          have H3 := Lib.hid h3
          clear h1 h2 h3
          go_wp2_with fail
          go_ret
          refine ⟨K1, HIFF.out, rfl, F', H1.out, fun i hi => (H2.out i hi).imp (fun h => h) (fun h => ?_), (Keeps.of_below (F := F) HBL2.out).trans H3.out (fun _ _ h => h)⟩
          have := HBL2.out.size
          omega
        | true =>
          have HP0 : Aside (PassSt mb (mb + 1) S.T (okR S t) rs K1 M (∀ i p, i < 0 → S.T[i]? = some p → ClosedAt K1 p) K1 false wr) := ⟨HKS.out, HRT.out, fun _ => ⟨rfl, fun i p hi => by omega⟩, fun e => by cases e⟩
          have HKN := Lib.hid (HKS.out.kept M)
          have b1 := ((HA.out.below hbl).cell 1).trans ((HA.out.below hbl).c1.trans (congrArg some HV1.out))
          have HBL2 := Lib.hid hbl
          have hsz2 := hsz
          clear hbl hsz
          obtain ⟨V2, hV2⟩ : ∃ V2, V2 = wr := ⟨_, rfl⟩
          subst hV2
          go_wp2_with fail
          clear b1
          go_loopw [12, 14, 16, 44] (fun agv _ _ iv ws => ∃ (k : Nat) (K2 : List Int) (ag : Bool), iv = .int .i64 k ∧ agv = .bool ag ∧ k ≤ N ∧ Aside (PassSt mb (mb + 1) S.T (okR S t) rs K1 M (∀ i p, i < k → S.T[i]? = some p → ClosedAt K1 p) K2 ag ws) ∧ Below w.heap.size w ws ∧ W1.heap.size ≤ ws.heap.size) (fun _ _ _ iv _ => N - (intOf iv).toNat)
          case atStart => exact ⟨0, K1, false, rfl, rfl, Nat.zero_le _, HP0, HBL2.out, hsz2⟩
          case round =>
            obtain ⟨k, K2, ag, rfl, rfl, hkN, HPS, hbl, hsz⟩ := hrel
            by_cases hk : k < N
            · obtain ⟨p, hp⟩ : ∃ p, S.T[k]? = some p := ⟨_, List.getElem?_eq_getElem (by rw [← HN.out]; exact hk)⟩
              obtain ⟨q, o, c', hv', hFq, hqb, hcl, hfz⟩ := (HA.out.below hbl).thing hp
              rw [HV1.out] at hv'
              simp only [Value.slice.injEq] at hv'
              obtain ⟨rfl, hNN, rfl⟩ := hv'
              have c0 := hcl 0 (by omega)
              have c1 := hcl 1 (by omega)
              have c2 := hcl 2 (by omega)
              have c3 := hcl 3 (by omega)
              have c4 := hcl 4 (by omega)
              have c5 := hcl 5 (by omega)
              have c6 := hcl 6 (by omega)
              have c7 := hcl 7 (by omega)
              have c8 := hcl 8 (by omega)
              simp only [encTh, List.getElem?_cons_zero, List.getElem?_cons_succ, Nat.add_zero] at c0 c1 c2 c3 c4 c5 c6 c7 c8
              have u1 : decide ((k : Int) < (N : Int)) = true := decide_eq_true (by omega)
              have u2 : decide (k < N) = true := decide_eq_true hk
              have hmem := List.mem_of_getElem? hp
              have hgp := (HSG.out.good _ hmem).1
              have hzi := HIDS.out _ hmem
              have HP := Lib.hid hp
              obtain ⟨zi, zk, za, zb, zc, zd, zl, zv, zm⟩ := p
              simp only at c0 c1 c2 c3 c4 c5 c6 c7 c8 hzi
              have HG4 := Lib.hid (show ∀ c ∈ ([za, zb, zc, zd] : List Int), I64 c from fun c hc => by
                have hc' : c = za ∨ c = zb ∨ c = zc ∨ c = zd := by simpa using hc
                rcases hc' with rfl | rfl | rfl | rfl
                · exact hgp.2.1
                · exact hgp.2.2.1
                · exact hgp.2.2.2.1
                · exact hgp.2.2.2.2)
              have HMEM := Lib.hid hmem
              obtain ⟨xb, hxb⟩ : ∃ xb, xb = wr.heap.size := ⟨_, rfl⟩
              obtain ⟨X, hX⟩ : ∃ X, X = wr.alloc (.cells #[.int .i64 zi, .int .i64 zk, .int .i64 zl, .int .i64 zv, .int .i64 za, .int .i64 zb, .int .i64 zc, .int .i64 zd, .int .u64 zm] 118) := ⟨_, rfl⟩
              have hbX : Below wr.heap.size wr X := by rw [hX]; exact (Below.refl _ _).alloc (Nat.le_refl _) _
              have hX0 : X.heap[xb]? = some (.cells #[.int .i64 zi, .int .i64 zk, .int .i64 zl, .int .i64 zv, .int .i64 za, .int .i64 zb, .int .i64 zc, .int .i64 zd, .int .u64 zm] 118 (0, 0)) := by rw [hX, hxb]; exact blk_last wr _ rfl
              have HBX := Lib.hid (hbl.trans (hbX.mono hbl.size))
              have HX0 := Lib.hid hX0
              have HPX : Aside (PassSt mb (mb + 1) S.T (okR S t) rs K1 M ((∀ i p, i < k → S.T[i]? = some p → ClosedAt K1 p) ∧ (zk = 0 → (zi : Int) ∈ K1 → ∀ c ∈ ([za, zb, zc, zd] : List Int).take 0, c ∈ K1)) K2 ag X) := (HPS.out.below hbX).more fun _ d => ⟨d, fun _ _ c hc => by cases hc⟩
              have HXE := Lib.hid hX
              have hszX : W1.heap.size ≤ X.heap.size := by have := hbX.size; omega
              have f4 := Joins.cell_of_block hX0 4
              have f5 := Joins.cell_of_block hX0 5
              have f6 := Joins.cell_of_block hX0 6
              have f7 := Joins.cell_of_block hX0 7
              simp at f4 f5 f6 f7
              have HXB := Lib.hid (show W1.heap.size ≤ xb by rw [hxb]; exact hsz)
              have HXBE := Lib.hid hxb
              clear hp hcl hfz hFq hqb hNN hgp hX hbX hX0 hbl hmem
              go_upto_region 17 with fail
              rw [← HXE.out, ← HXBE.out]
              clear hxb c0 c1 c2 c3 c4 c5 c6 c7 c8
              go_wp2_with fail
              go_loopw [12, 16, 50] (fun agv _ iv ws => ∃ (m : Nat) (K2 : List Int) (ag : Bool), iv = .int .i64 m ∧ agv = .bool ag ∧ m ≤ 4 ∧ Aside (PassSt mb (mb + 1) S.T (okR S t) rs K1 M ((∀ i p, i < k → S.T[i]? = some p → ClosedAt K1 p) ∧ (zk = 0 → (zi : Int) ∈ K1 → ∀ c ∈ ([za, zb, zc, zd] : List Int).take m, c ∈ K1)) K2 ag ws) ∧ ws.heap[xb]? = some (.cells #[.int .i64 zi, .int .i64 zk, .int .i64 zl, .int .i64 zv, .int .i64 za, .int .i64 zb, .int .i64 zc, .int .i64 zd, .int .u64 zm] 118 (0, 0)) ∧ Below w.heap.size w ws ∧ W1.heap.size ≤ ws.heap.size) (fun _ _ iv _ => 4 - (intOf iv).toNat)
              case atStart => exact ⟨0, K2, ag, rfl, rfl, Nat.zero_le _, HPX, HX0.out, HBX.out, hszX⟩
              case round =>
                clear f4 f5 f6 f7 HPX HPS
                obtain ⟨m, K2, ag, rfl, rfl, hm4, HPS, hbx, hbl, hsz⟩ := hrel
                by_cases hm : m < 4
                · obtain ⟨c, hc⟩ : ∃ c, ([za, zb, zc, zd] : List Int)[m]? = some c := ⟨([za, zb, zc, zd] : List Int)[m]'(by show m < 4; exact hm), List.getElem?_eq_getElem _⟩
                  have hix : (Instr.index 61 (.agg #[.int .i64 za, .int .i64 zb, .int .i64 zc, .int .i64 zd]) (.int .i64 (m : Int))).run Try.prog wr = .ok (.int .i64 c) wr := index_four (za, zb, zc, zd) (k := m) (x := c) hc wr
                  have v1' : decide ((m : Int) < 4) = true := decide_eq_true (by omega)
                  have v2' : decide (m < 4) = true := decide_eq_true hm
                  have hc64 := HG4.out c (List.mem_of_getElem? hc)
                  have HCC := Lib.hid hc
                  have HBL4 := Lib.hid hbl
                  have d0 : wr.cell? ⟨mb + 1, 0, none⟩ = some (.map (some mb)) := Joins.cell_of_block HPS.out.st.box 0
                  have x0 : wr.cell? ⟨xb, 0, none⟩ = some (.int .i64 zi) := Joins.cell_of_block hbx 0
                  have x1 : wr.cell? ⟨xb, 1, none⟩ = some (.int .i64 zk) := Joins.cell_of_block hbx 1
                  have look1 := HPS.out.st.look (a := (zi : Int)) (by unfold I64; omega)
                  have look2 := HPS.out.st.look hc64
                  clear hc hbl
                  by_cases hz : zk = 0
                  · have g1 : (zk == 0) = true := by simpa using hz
                    by_cases hin : (zi : Int) ∈ K2
                    · rw [decide_eq_true hin] at look1
                      by_cases hcin : c ∈ K2
                      · rw [decide_eq_true hcin] at look2
                        have HCI := Lib.hid hcin
                        clear hz hin hcin
                        have HP2 : Aside (PassSt mb (mb + 1) S.T (okR S t) rs K1 M ((∀ i p, i < k → S.T[i]? = some p → ClosedAt K1 p) ∧ (zk = 0 → (zi : Int) ∈ K1 → ∀ c ∈ ([za, zb, zc, zd] : List Int).take (m + 1), c ∈ K1)) K2 ag wr) := HPS.out.more fun e d => ⟨d.1, fun g1 g2 c' hc' => by
                          rw [List.take_add_one, HCC.out] at hc'
                          rcases List.mem_append.1 hc' with hc' | hc'
                          · exact d.2 g1 g2 c' hc'
                          · obtain rfl : c' = c := by simpa using hc'
                            rw [← e]; exact HCI.out⟩
                        go_wp2_with fail
                        exact ⟨⟨m + 1, K2, ag, by go_num, rfl, hm, HP2, hbx, HBL4.out, hsz⟩, by simp [intOf]; omega⟩
                      · rw [decide_eq_false hcin] at look2
                        have hrr : RReach S.T (okR S t) rs c := .kid (HPS.out.st.all _ hin) HMEM.out rfl hz (List.mem_of_getElem? HCC.out)
                        obtain ⟨hr0, hr1⟩ := HRG.out c hrr
                        obtain ⟨Z, hput, hKZ, hkz, hzz⟩ := HPS.out.st.put hc64 hrr
                        rw [if_neg hcin] at hKZ
                        have hle := HPS.out.le
                        have HP2 : Aside (PassSt mb (mb + 1) S.T (okR S t) rs K1 M ((∀ i p, i < k → S.T[i]? = some p → ClosedAt K1 p) ∧ (zk = 0 → (zi : Int) ∈ K1 → ∀ c ∈ ([za, zb, zc, zd] : List Int).take (m + 1), c ∈ K1)) (c :: K2) true Z) := ⟨hKZ, fun r hr ho => List.mem_cons_of_mem _ (HPS.out.roots r hr ho), (fun e => by cases e), fun _ => by rw [kc_cons hcin hr0 hr1]; omega⟩
                        have hxbm : xb ≠ mb := fun e => by
                          have := HXB.out
                          have := HZ1.out
                          have := HMB.out
                          omega
                        have HBXZ := Lib.hid ((hkz.block xb (lt_of_block hbx) hxbm).trans hbx)
                        have HBZ := Lib.hid (show Below w.heap.size w Z from HBL4.out.trans (hkz.toBelow (fun i e => by rw [e, HMB.out]; exact Nat.le_refl _) HBL4.out.size))
                        have hszZ : W1.heap.size ≤ Z.heap.size := by omega
                        clear hz hin hcin hrr hKZ hkz hzz hle hr0 hr1 hxbm
                        go_wp2_with fail
                        exact ⟨⟨m + 1, c :: K2, true, by go_num, rfl, hm, HP2, HBXZ.out, HBZ.out, hszZ⟩, by simp [intOf]; omega⟩
                    · rw [decide_eq_false hin] at look1
                      have HIN := Lib.hid hin
                      clear hz hin look2
                      have HP2 : Aside (PassSt mb (mb + 1) S.T (okR S t) rs K1 M ((∀ i p, i < k → S.T[i]? = some p → ClosedAt K1 p) ∧ (zk = 0 → (zi : Int) ∈ K1 → ∀ c ∈ ([za, zb, zc, zd] : List Int).take (m + 1), c ∈ K1)) K2 ag wr) := HPS.out.more fun e d => ⟨d.1, fun g1 g2 c' hc' => by
                        rw [List.take_add_one, HCC.out] at hc'
                        rcases List.mem_append.1 hc' with hc' | hc'
                        · exact d.2 g1 g2 c' hc'
                        · obtain rfl : c' = c := by simpa using hc'
                          exact absurd (by rw [e]; exact g2) HIN.out⟩
                      go_wp2_with fail
                      exact ⟨⟨m + 1, K2, ag, by go_num, rfl, hm, HP2, hbx, HBL4.out, hsz⟩, by simp [intOf]; omega⟩
                  · have g1 : (zk == 0) = false := by simpa using hz
                    have HZ0 := Lib.hid hz
                    clear hz look1 look2
                    have HP2 : Aside (PassSt mb (mb + 1) S.T (okR S t) rs K1 M ((∀ i p, i < k → S.T[i]? = some p → ClosedAt K1 p) ∧ (zk = 0 → (zi : Int) ∈ K1 → ∀ c ∈ ([za, zb, zc, zd] : List Int).take (m + 1), c ∈ K1)) K2 ag wr) := HPS.out.more fun e d => ⟨d.1, fun g1 g2 c' hc' => by
                      rw [List.take_add_one, HCC.out] at hc'
                      rcases List.mem_append.1 hc' with hc' | hc'
                      · exact d.2 g1 g2 c' hc'
                      · obtain rfl : c' = c := by simpa using hc'
                        exact absurd g1 HZ0.out⟩
                    go_wp2_with fail
                    exact ⟨⟨m + 1, K2, ag, by go_num, rfl, hm, HP2, hbx, HBL4.out, hsz⟩, by simp [intOf]; omega⟩
                · have v1' : decide ((m : Int) < 4) = false := decide_eq_false (by omega)
                  have v2' : decide (m < 4) = false := decide_eq_false hm
                  have HP2 : Aside (PassSt mb (mb + 1) S.T (okR S t) rs K1 M (∀ i p, i < k + 1 → S.T[i]? = some p → ClosedAt K1 p) K2 ag wr) := HPS.out.more fun e d i p' hi hp' => by
                    by_cases ei : i = k
                    · rw [ei, HP.out] at hp'
                      obtain rfl := Option.some.inj hp'
                      intro g1 g2 c' hc'
                      refine d.2 g1 g2 c' ?_
                      rw [List.take_of_length_le (by show 4 ≤ m; omega)]
                      exact hc'
                    · exact d.1 i p' (by omega) hp'
                  have HBL4 := Lib.hid hbl
                  clear hbl hbx
                  go_wp2_with fail
                  exact ⟨⟨k + 1, K2, ag, by go_num, rfl, hk, HP2, HBL4.out, hsz⟩, by simp [intOf]; omega⟩
            · have u1 : decide ((k : Int) < (N : Int)) = false := decide_eq_false (by omega)
              have u2 : decide (k < N) = false := decide_eq_false hk
              have HBL3 := Lib.hid hbl
              have HCL3 : Aside (ag = false → ∀ p ∈ S.T, ClosedAt K2 p) := fun e p hp => by
                obtain ⟨e1, hd⟩ := HPS.out.no e
                obtain ⟨i, hi⟩ := List.mem_iff_getElem?.1 hp
                have := (List.getElem?_eq_some_iff.1 hi).1
                rw [← HN.out] at this
                rw [e1]
                exact hd i p (by omega) hi
              have HMEAS := Lib.hid (show 2 * (M - keptN wr mb M) + boolN (.bool ag) < 2 * (M - keptN V2 mb M) + boolN (.bool true) by
                rw [HPS.out.st.kept M, HKN.out]
                have h1 := kc_le K2 M
                cases ag with
                | false =>
                  rw [(HPS.out.no rfl).1]
                  show 2 * (M - kc K1 M) + 0 < 2 * (M - kc K1 M) + 1
                  omega
                | true =>
                  have h2 := HPS.out.yes rfl
                  show 2 * (M - kc K2 M) + 1 < 2 * (M - kc K1 M) + 1
                  omega)
              clear hbl
              go_wp2_with fail
              exact ⟨⟨K2, ag, rfl, HPS.out.st, HPS.out.roots, HCL3, HBL3.out, hsz⟩, HMEAS.out⟩
end Go.Proofs.Ytdmamecfmfhlmaa
