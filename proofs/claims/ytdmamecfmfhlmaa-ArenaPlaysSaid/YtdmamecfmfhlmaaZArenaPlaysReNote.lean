/-
  ref.Store's Note.
-/
import Derived.Test.YtdmamecfmfhlmaaZArenaPlaysReJoin
namespace Go.Proofs.Ytdmamecfmfhlmaa
set_option maxRecDepth 100000
open Go.RowKit

/-- What the document's Note comes to. -/
def NoteRel (S : RSt) (t sq rl j va e : Int) (S' : RSt) : Prop :=
  if tenB t = false then e = 6 ∧ S' = S else
  if (okR S t.toNat sq && okR S t.toNat va) = false then e = 6 ∧ S' = S else
  (∃ (i : Nat) (p : Nat × Ent), S.T[i]? = some p ∧ p.2.key = (1, sq, rl, j, 0) ∧ p.2.va ≠ va ∧ e = 7 ∧ S' = S) ∨
  ((∀ p ∈ S.T, p.2.key = (1, sq, rl, j, 0) → p.2.va = va) ∧ ∃ r, GaveR S t.toNat (1, sq, rl, j, 0) 0 va r e S')
def NotedR (b : Nat) (S : RSt) (F : Nat → Prop) (t sq rl j va : Int) (w : World) (e : Ending) (w' : World) : Prop :=
  ∃ (er : Int) (S' : RSt) (F' : Nat → Prop), e = .returned (.int .i64 er) ∧ NoteRel S t sq rl j va er S' ∧ IsRe b S' w' F' ∧ (∀ i, F' i → F i ∨ w.heap.size ≤ i) ∧ Keeps F w w'
set_option maxHeartbeats 8000000 in
set_option maxRecDepth 100000 in
theorem noteR_any (b : Nat) (S : RSt) (F : Nat → Prop) (t sq rl j va : Int) (w : World) (h : IsRe b S w F) (hS : ReGood S) (h1 : I64 sq) (h2 : I64 rl) (h3 : I64 j) :
    Calls Try.prog 62 #[.pointer (some ⟨b, 0, none⟩), .int .i64 t, .int .i64 sq, .int .i64 rl, .int .i64 j, .int .i64 va] w (NotedR b S F t sq rl j va w) := by
  rcases ten_cases t with ⟨t, ht, rfl⟩ | ht
  · have HT := Lib.hid (person_in t ht)
    obtain ⟨arr, v1, vs, h⟩ := h
    obtain ⟨av, c, hv1, -⟩ := h.list.form
    obtain ⟨N, hN⟩ : ∃ N, N = S.T.length := ⟨_, rfl⟩
    have hfew := h.few
    rw [← hN] at hv1 hfew
    have HA := Lib.hid h
    have HFLT := Lib.hid h.lt
    have HV1 := Lib.hid hv1
    have HN := Lib.hid hN
    have HSG := Lib.hid hS
    have HQ := Lib.hid (show I64 1 ∧ I64 sq ∧ I64 rl ∧ I64 j ∧ I64 0 from ⟨by unfold I64; omega, h1, h2, h3, by unfold I64; omega⟩)
    have HE6 := Lib.hid (show (okR S t sq && okR S t va) = false → NoteRel S t sq rl j va 6 S from fun e => by
      unfold NoteRel
      rw [if_neg (by rw [tenB_in ht]; decide), Int.toNat_natCast, if_pos e]
      exact ⟨rfl, rfl⟩)
    have HE7 := Lib.hid (show (okR S t sq && okR S t va) = true → ∀ (i : Nat) (p : Nat × Ent), S.T[i]? = some p → p.2.key = (1, sq, rl, j, 0) → p.2.va ≠ va → NoteRel S t sq rl j va 7 S from fun e i p hp hk hv => by
      unfold NoteRel
      rw [if_neg (by rw [tenB_in ht]; decide), Int.toNat_natCast, if_neg (by rw [e]; decide)]
      exact .inl ⟨i, p, hp, hk, hv, rfl, rfl⟩)
    have HE0 := Lib.hid (show (okR S t sq && okR S t va) = true → (∀ p ∈ S.T, p.2.key = (1, sq, rl, j, 0) → p.2.va = va) → ∀ r e S', GaveR S t (1, sq, rl, j, 0) 0 va r e S' → NoteRel S t sq rl j va e S' from fun e ha r e' S' hG => by
      unfold NoteRel
      rw [if_neg (by rw [tenB_in ht]; decide), Int.toNat_natCast, if_neg (by rw [e]; decide)]
      exact .inr ⟨ha, r, hG⟩)
    have HO1 := Lib.hid (owned_any b S arr v1 vs F t sq 0 w h ht)
    have HO2 := Lib.hid (fun W (hW : Below w.heap.size w W) => owned_any b S arr v1 vs F t va 0 W (h.below hW) ht)
    obtain ⟨p1, hp1⟩ : ∃ p, p = ownR S.T t sq 0 := ⟨_, rfl⟩
    obtain ⟨p2, hp2⟩ : ∃ p, p = ownR S.T t va 0 := ⟨_, rfl⟩
    rw [← hp1] at HO1
    rw [← hp2] at HO2
    have HK1 := Lib.hid (show okR S t sq = p1.2 by unfold okR; rw [← hp1])
    have HK2 := Lib.hid (show okR S t va = p2.2 by unfold okR; rw [← hp2])
    obtain ⟨⟨pi, xk, xa, xb, xc, xd, xl, xv, xm⟩, ok1⟩ := p1
    obtain ⟨⟨qi, yk, ya, yb, yc, yd, yl, yv, ym⟩, ok2⟩ := p2
    unfold thingV at HO1 HO2
    simp only at HO1 HO2 HK1 HK2
    have ht0 : (0 : Int) ≤ t := by omega
    have htI : (t : Int) < 64 := by omega
    clear h hv1 hN hS h1 h2 h3 hp1 hp2
    by_cases hok : (ok1 && ok2) = true
    · simp only [Bool.and_eq_true] at hok
      obtain ⟨rfl, rfl⟩ := hok
      have HOK := Lib.hid (show (okR S t sq && okR S t va) = true by rw [HK1.out, HK2.out]; rfl)
      go_enter Try.func62, Try.ntmps62
      go_wp2_with fail
      refine (HT.out _).mono ?_
      rintro e w1 ⟨rfl, hw1⟩
      rw [hw1]
      clear hw1 w1
      go_wp2_with fail
      with_reducible refine HO1.out.mono ?_
      rintro e w2 ⟨rfl, hb2⟩
      have hbY : Below w.heap.size w (w2.alloc (.cells #[.int .i64 pi, .int .i64 xk, .int .i64 xl, .int .i64 xv, .int .i64 xa, .int .i64 xb, .int .i64 xc, .int .i64 xd, .int .u64 xm] 118)) := hb2.alloc hb2.size _
      have HBY := Lib.hid hbY
      clear hb2 hbY
      go_wp2_with fail
      with_reducible refine (HO2.out _ HBY.out).mono ?_
      rintro e w3 ⟨rfl, hb3⟩
      have hb3' := HBY.out.trans (hb3.mono HBY.out.size)
      obtain ⟨W0, hW0⟩ : ∃ W0, W0 = (w3.alloc (.cells #[.int .i64 qi, .int .i64 yk, .int .i64 yl, .int .i64 yv, .int .i64 ya, .int .i64 yb, .int .i64 yc, .int .i64 yd, .int .u64 ym] 118)).alloc (.cells #[.int .i64 sq, .int .i64 rl, .int .i64 j, .int .i64 0] 61) := ⟨_, rfl⟩
      have hb0 : Below w.heap.size w W0 := by rw [hW0]; exact (hb3'.alloc hb3'.size _).alloc (by have := hb3'.size; simp; omega) _
      have ha0 : W0.heap[w3.heap.size + 1]? = some (.cells #[.int .i64 sq, .int .i64 rl, .int .i64 j, .int .i64 0] 61 (0, 0)) := by rw [hW0]; exact blk_last _ _ (by simp)
      have hz0 : w3.heap.size + 1 < W0.heap.size := by rw [hW0]; simp
      have HW0 := Lib.hid hW0
      have HB0 := Lib.hid hb0
      have HA0 := Lib.hid ha0
      have HAW := Lib.hid (HA.out.below hb0)
      have b1 := (HAW.out.cell 1).trans (HAW.out.c1.trans (congrArg some HV1.out))
      clear hb3 hb3' hW0 hb0 ha0
      go_upto_region 8 with fail
      rw [← HW0.out]
      go_wp2_with fail
      clear b1
      go_loopw [19, 54] (fun _ iv ws => ∃ k : Nat, iv = .int .i64 k ∧ k ≤ N ∧ Aside (∀ i p, i < k → S.T[i]? = some p → p.2.key = (1, sq, rl, j, 0) → p.2.va = va) ∧ Below W0.heap.size W0 ws) (fun _ iv _ => N - (intOf iv).toNat)
      case atStart => exact ⟨0, rfl, Nat.zero_le _, (show ∀ i p, i < 0 → S.T[i]? = some p → p.2.key = (1, sq, rl, j, 0) → p.2.va = va from fun i p h => by omega), Below.refl _ _⟩
      case round =>
        obtain ⟨k, rfl, hkN, HNO, hbl⟩ := hrel
        by_cases hk : k < N
        · obtain ⟨p, hp⟩ : ∃ p, S.T[k]? = some p := ⟨_, List.getElem?_eq_getElem (by rw [← HN.out]; exact hk)⟩
          obtain ⟨q, o, c', hv', hFq, hqb, hcl, hfz⟩ := (HAW.out.below hbl).thing hp
          rw [HV1.out] at hv'
          simp only [Value.slice.injEq] at hv'
          obtain ⟨rfl, hNN, rfl⟩ := hv'
          have c0 := hcl 0 (by omega)
          have c1 := hcl 1 (by omega)
          have c2 := hcl 2 (by omega)
          have c3 := hcl 3 (by omega)
          have c4 := hcl 4 (by omega)
          have c5 := hcl 5 (by omega)
          have c6 := hcl 6 (by omega)
          have c7 := hcl 7 (by omega)
          have c8 := hcl 8 (by omega)
          simp only [encTh, List.getElem?_cons_zero, List.getElem?_cons_succ, Nat.add_zero] at c0 c1 c2 c3 c4 c5 c6 c7 c8
          have u1 : decide ((k : Int) < (N : Int)) = true := decide_eq_true (by omega)
          have u2 : decide (k < N) = true := decide_eq_true hk
          have hgp := (HSG.out.good _ (List.mem_of_getElem? hp)).1
          have heq := fun W => eq4 p.2.a p.2.b p.2.c p.2.d sq rl j 0 ⟨hgp.2.1, hgp.2.2.1, hgp.2.2.2.1, hgp.2.2.2.2⟩ HQ.out.2 W
          have HNEXT := Lib.hid (show (p.2.key = (1, sq, rl, j, 0) → p.2.va = va) → ∀ i p', i < k + 1 → S.T[i]? = some p' → p'.2.key = (1, sq, rl, j, 0) → p'.2.va = va from fun hx i p' hi hp' => by
            by_cases e : i = k
            · subst e
              rw [hp] at hp'
              obtain rfl := Option.some.inj hp'
              exact hx
            · exact HNO.out i p' (by omega) hp')
          have HYES := Lib.hid (fun hk' hv => HE7.out HOK.out k p hp hk' hv)
          obtain ⟨zi, zk, za, zb, zc, zd, zl, zv, zm⟩ := p
          unfold Ent.key at HNEXT HYES
          simp only at c0 c1 c2 c3 c4 c5 c6 c7 c8 heq HNEXT HYES
          obtain ⟨X, hX⟩ : ∃ X, X = wr.alloc (.cells #[.int .i64 zi, .int .i64 zk, .int .i64 zl, .int .i64 zv, .int .i64 za, .int .i64 zb, .int .i64 zc, .int .i64 zd, .int .u64 zm] 118) := ⟨_, rfl⟩
          have hbX : Below W0.heap.size W0 X := by rw [hX]; exact hbl.alloc hbl.size _
          have hX0 : X.heap[wr.heap.size]? = some (.cells #[.int .i64 zi, .int .i64 zk, .int .i64 zl, .int .i64 zv, .int .i64 za, .int .i64 zb, .int .i64 zc, .int .i64 zd, .int .u64 zm] 118 (0, 0)) := by rw [hX]; exact blk_last wr _ rfl
          have haX : X.heap[w3.heap.size + 1]? = _ := (hbX.block _ hz0).trans HA0.out
          have HXE := Lib.hid hX
          have HBX := Lib.hid hbX
          have f1 := Joins.cell_of_block hX0 1
          have f3 := Joins.cell_of_block hX0 3
          have f4 := Joins.cell_of_block hX0 4
          have f5 := Joins.cell_of_block hX0 5
          have f6 := Joins.cell_of_block hX0 6
          have f7 := Joins.cell_of_block hX0 7
          have a0 := Joins.cell_of_block haX 0
          have a1 := Joins.cell_of_block haX 1
          have a2 := Joins.cell_of_block haX 2
          have a3 := Joins.cell_of_block haX 3
          simp at f1 f3 f4 f5 f6 f7 a0 a1 a2 a3
          clear hp hcl hfz hFq hqb hNN hgp hX hbX hX0 haX hbl
          by_cases hk1 : zk = 1
          · have g1 : (zk == 1) = true := by simpa using hk1
            by_cases hA : za = sq ∧ zb = rl ∧ zc = j ∧ zd = 0
            · rw [decide_eq_true hA] at heq
              by_cases hva : zv = va
              · have g2 : (zv != va) = false := by simpa using hva
                have HN2 := Lib.hid (HNEXT.out (fun _ => hva))
                clear hk1 hA hva
                go_upto_region 11 with fail
                rw [← HXE.out]
                go_wp2_with fail
                exact ⟨⟨k + 1, by go_num, hk, HN2.out, HBX.out⟩, by simp [intOf]; omega⟩
              · have g2 : (zv != va) = true := by simpa using hva
                have HJ := Lib.hid (HYES.out (by rw [hk1, hA.1, hA.2.1, hA.2.2.1, hA.2.2.2]) hva)
                clear hk1 hA hva
                go_upto_region 11 with fail
                rw [← HXE.out]
                go_wp2_with fail
                go_ret
                exact ⟨7, S, F, rfl, HJ.out, ⟨_, _, _, HAW.out.below HBX.out⟩, fun i hi => .inl hi, Keeps.of_below (HB0.out.trans (HBX.out.mono HB0.out.size))⟩
            · rw [decide_eq_false hA] at heq
              have HN2 := Lib.hid (HNEXT.out (fun e => absurd ⟨congrArg (·.2.1) e, congrArg (·.2.2.1) e, congrArg (·.2.2.2.1) e, congrArg (·.2.2.2.2) e⟩ hA))
              clear hk1 hA
              go_upto_region 11 with fail
              rw [← HXE.out]
              go_wp2_with fail
              exact ⟨⟨k + 1, by go_num, hk, HN2.out, HBX.out⟩, by simp [intOf]; omega⟩
          · have g1 : (zk == 1) = false := by simpa using hk1
            have HN2 := Lib.hid (HNEXT.out (fun e => absurd (congrArg (·.1) e) hk1))
            clear hk1
            go_upto_region 11 with fail
            rw [← HXE.out]
            go_wp2_with fail
            exact ⟨⟨k + 1, by go_num, hk, HN2.out, HBX.out⟩, by simp [intOf]; omega⟩
        · have u1 : decide ((k : Int) < (N : Int)) = false := decide_eq_false (by omega)
          have u2 : decide (k < N) = false := decide_eq_false hk
          have HALL := Lib.hid (show ∀ p ∈ S.T, p.2.key = (1, sq, rl, j, 0) → p.2.va = va from fun p hp => by
            obtain ⟨i, hi⟩ := List.mem_iff_getElem?.1 hp
            have := (List.getElem?_eq_some_iff.1 hi).1
            rw [← HN.out] at this
            exact HNO.out i p (by omega) hi)
          have haX : wr.heap[w3.heap.size + 1]? = _ := (hbl.block _ hz0).trans HA0.out
          have a0 := Joins.cell_of_block haX 0
          have a1 := Joins.cell_of_block haX 1
          have a2 := Joins.cell_of_block haX 2
          have a3 := Joins.cell_of_block haX 3
          simp at a0 a1 a2 a3
          have HB1 := Lib.hid (HB0.out.trans (hbl.mono HB0.out.size))
          have HGV := Lib.hid (show Calls Try.prog 90 #[.pointer (some ⟨b, 0, none⟩), .int .i64 t, .agg #[.int .i64 0, .int .i64 1, .int .i64 0, .int .i64 va, .int .i64 sq, .int .i64 rl, .int .i64 j, .int .i64 0, .int .u64 0]] wr (GivenR b S F t (1, sq, rl, j, 0) 0 va wr) from giveR_any b S arr v1 vs F t (1, sq, rl, j, 0) 0 va wr (HAW.out.below hbl) ht HSG.out HQ.out)
          clear haX hbl
          go_wp2_with fail
          with_reducible refine Calls.mono HGV.out ?_
          rintro e w5 ⟨r, er, S', F', rfl, g1, g2, g3, g4⟩
          have HJ := Lib.hid (HE0.out HOK.out HALL.out r er S' g1)
          have G2 := Lib.hid g2
          have G3 := Lib.hid g3
          have G4 := Lib.hid g4
          clear g1 g2 g3 g4
          go_wp2_with fail
          go_ret
          refine ⟨er, S', F', rfl, HJ.out, G2.out, fun i hi => (G3.out i hi).imp (fun h => h) (fun h => ?_), (Keeps.of_below (F := F) HB1.out).trans G4.out (fun _ _ h => h)⟩
          have := HB1.out.size
          omega
    · have hno : (okR S t sq && okR S t va) = false := by rw [HK1.out, HK2.out]; simpa using hok
      have HJ := Lib.hid (HE6.out hno)
      clear hno
      cases ok1 with
      | false =>
        clear hok
        go_enter Try.func62, Try.ntmps62
        go_wp2_with fail
        refine (HT.out _).mono ?_
        rintro e w1 ⟨rfl, hw1⟩
        rw [hw1]
        clear hw1 w1
        go_wp2_with fail
        with_reducible refine HO1.out.mono ?_
        rintro e w2 ⟨rfl, hb2⟩
        have hbY : Below w.heap.size w (w2.alloc (.cells #[.int .i64 pi, .int .i64 xk, .int .i64 xl, .int .i64 xv, .int .i64 xa, .int .i64 xb, .int .i64 xc, .int .i64 xd, .int .u64 xm] 118)) := hb2.alloc hb2.size _
        have HBY := Lib.hid hbY
        clear hb2 hbY
        go_wp2_with fail
        with_reducible refine (HO2.out _ HBY.out).mono ?_
        rintro e w3 ⟨rfl, hb3⟩
        have HB3 := Lib.hid (HBY.out.trans (hb3.mono HBY.out.size))
        clear hb3
        go_wp2_with fail
        go_ret
        exact ⟨6, S, F, rfl, HJ.out, ⟨_, _, _, HA.out.below (HB3.out.alloc HB3.out.size _)⟩, fun i hi => .inl hi, Keeps.of_below (HB3.out.alloc HB3.out.size _)⟩
      | true =>
        obtain rfl : ok2 = false := by simpa using hok
        clear hok
        go_enter Try.func62, Try.ntmps62
        go_wp2_with fail
        refine (HT.out _).mono ?_
        rintro e w1 ⟨rfl, hw1⟩
        rw [hw1]
        clear hw1 w1
        go_wp2_with fail
        with_reducible refine HO1.out.mono ?_
        rintro e w2 ⟨rfl, hb2⟩
        have hbY : Below w.heap.size w (w2.alloc (.cells #[.int .i64 pi, .int .i64 xk, .int .i64 xl, .int .i64 xv, .int .i64 xa, .int .i64 xb, .int .i64 xc, .int .i64 xd, .int .u64 xm] 118)) := hb2.alloc hb2.size _
        have HBY := Lib.hid hbY
        clear hb2 hbY
        go_wp2_with fail
        with_reducible refine (HO2.out _ HBY.out).mono ?_
        rintro e w3 ⟨rfl, hb3⟩
        have HB3 := Lib.hid (HBY.out.trans (hb3.mono HBY.out.size))
        clear hb3
        go_wp2_with fail
        go_ret
        exact ⟨6, S, F, rfl, HJ.out, ⟨_, _, _, HA.out.below (HB3.out.alloc HB3.out.size _)⟩, fun i hi => .inl hi, Keeps.of_below (HB3.out.alloc HB3.out.size _)⟩
  · have HT := Lib.hid (person_out t ht)
    have HI := Lib.hid h
    have HJ := Lib.hid (show NoteRel S t sq rl j va 6 S by unfold NoteRel; rw [if_pos (tenB_out ht)]; exact ⟨rfl, rfl⟩)
    clear h hS h1 h2 h3
    go_enter Try.func62, Try.ntmps62
    go_wp2_with fail
    refine (HT.out _).mono ?_
    rintro e w1 ⟨rfl, rfl⟩
    go_wp2_with fail
    go_ret
    exact ⟨6, S, F, rfl, HJ.out, HI.out, fun i hi => .inl hi, Keeps.refl _ _⟩
end Go.Proofs.Ytdmamecfmfhlmaa
