/-
  arena.Join; Four cells stored; a world by a name of its own.
-/
import Derived.LoopN
import Derived.Test.YtabhpbkkjijfjaaZLeapStepsArSweep
import Derived.Test.YtabhpbkkjijfjaaZLeapSteps11
namespace Go.Proofs.Ytabhpbkkjijfjaa
set_option maxRecDepth 100000
open Go.RowKit

abbrev Four := Int × Int × Int × Int
def ownAll (L : List (Option Ent)) (t : Nat) (q : Four) : Bool := ownsA L t q.1 0 && (ownsA L t q.2.1 0 && (ownsA L t q.2.2.1 0 && ownsA L t q.2.2.2 0))
def lvAll (L : List (Option Ent)) (q : Four) : Bool := decide (lvA L q.1 < 44) && (decide (lvA L q.2.1 = lvA L q.1) && (decide (lvA L q.2.2.1 = lvA L q.1) && decide (lvA L q.2.2.2 = lvA L q.1)))
/-- What Join comes to. -/
def JoinR (S : ArS) (t : Int) (q : Four) (r e : Int) (S' : ArS) : Prop :=
  if tenB t = false then r = 0 ∧ e = 3 ∧ S' = S else
  if ownAll S.L t.toNat q = false then r = 0 ∧ e = 6 ∧ S' = S else
  if lvAll S.L q = false then r = 0 ∧ e = 8 ∧ S' = S else
  Gave S t.toNat (0, q) (lvA S.L q.1 + 1) 0 r e S'
theorem JoinR.out {S : ArS} {t : Int} {q : Four} (h : t < 0 ∨ 64 ≤ t) : JoinR S t q 0 3 S := by
  unfold JoinR; rw [if_pos (tenB_out h)]; exact ⟨rfl, rfl, rfl⟩
theorem JoinR.own {S : ArS} {t : Nat} {q : Four} (h : t < 64) (ho : ownAll S.L t q = false) : JoinR S t q 0 6 S := by
  unfold JoinR; rw [if_neg (by rw [tenB_in h]; decide), if_pos (by rw [Int.toNat_natCast]; exact ho)]; exact ⟨rfl, rfl, rfl⟩
theorem JoinR.lev {S : ArS} {t : Nat} {q : Four} (h : t < 64) (ho : ownAll S.L t q = true) (hl : lvAll S.L q = false) : JoinR S t q 0 8 S := by
  unfold JoinR; rw [if_neg (by rw [tenB_in h]; decide), if_neg (by rw [Int.toNat_natCast, ho]; decide), if_pos hl]; exact ⟨rfl, rfl, rfl⟩
theorem JoinR.gave {S S' : ArS} {t : Nat} {q : Four} {r e : Int} (h : t < 64) (ho : ownAll S.L t q = true) (hl : lvAll S.L q = true) (hG : Gave S t (0, q) (lvA S.L q.1 + 1) 0 r e S') : JoinR S t q r e S' := by
  unfold JoinR; rw [if_neg (by rw [tenB_in h]; decide), if_neg (by rw [Int.toNat_natCast, ho]; decide), if_neg (by rw [hl]; decide), Int.toNat_natCast]; exact hG
/-- The level of what has a place, as it lies in memory. -/
theorem ArAt.lev {b : Nat} {S : ArS} {arr : Array Value} {v1 v3 : Value} {bm n : Nat} {fr : List Nat} {g : AKey → Option Nat} {vs : List Value} {w : World} {F : Nat → Prop} {lv : Nat} {X : Nat → Prop} (h : ArAt b S arr v1 v3 bm n fr g vs w F lv X) {q o i : Nat}
    (hent : ∀ i u, S.L[i]? = some u → ∀ j, j < 8 → w.cell? ⟨q, o + i * 8 + j, none⟩ = (encO u)[j]?) (hi : i < S.L.length) : w.cell? ⟨q, o + i * 8 + 5, none⟩ = some (.int .i64 (lvA S.L i)) ∧ I64 (lvA S.L i) := by
  obtain ⟨u, hu⟩ : ∃ u, S.L[i]? = some u := ⟨_, List.getElem?_eq_getElem hi⟩
  refine ⟨by rw [hent i u hu 5 (by omega), lvA_at hu]; rfl, ?_⟩
  rw [lvA_at hu]
  cases u with
  | none => show I64 0; unfold I64; omega
  | some x => exact (h.good i x (atL_some.2 hu)).2.1
set_option maxHeartbeats 8000000 in
set_option maxRecDepth 100000 in
theorem join_any (b : Nat) (S : ArS) (F : Nat → Prop) (t : Int) (q : Four) (w : World) (h : IsAr b S w F) (hq : I64 q.1 ∧ I64 q.2.1 ∧ I64 q.2.2.1 ∧ I64 q.2.2.2) :
    Calls Try.prog 45 #[.pointer (some ⟨b, 0, none⟩), .int .i64 t, fourV q] w fun e w' => ∃ (r er : Int) (S' : ArS) (F' : Nat → Prop), e = .returned (.tuple #[.int .i64 r, .int .i64 er]) ∧ JoinR S t q r er S' ∧ IsAr b S' w' F' ∧ (∀ i, F' i → F i ∨ w.heap.size ≤ i) ∧ Keeps F w w' := by
  obtain ⟨q0, q1, q2, q3⟩ := q
  have hbX : Below w.heap.size w (w.alloc (.cells #[.int .i64 q0, .int .i64 q1, .int .i64 q2, .int .i64 q3] 72 (0, 0))) := (Below.refl _ _).alloc (Nat.le_refl _) _
  have hX := h.below hbX
  obtain ⟨X, hXe⟩ : ∃ X, X = w.alloc (.cells #[.int .i64 q0, .int .i64 q1, .int .i64 q2, .int .i64 q3] 72 (0, 0)) := ⟨_, rfl⟩
  rw [← hXe] at hbX hX
  have hbx0 : X.heap[w.heap.size]? = some (.cells #[.int .i64 q0, .int .i64 q1, .int .i64 q2, .int .i64 q3] 72 (0, 0)) := by rw [hXe]; exact blk_last w _ rfl
  have HKX := Lib.hid (Keeps.of_below (F := F) hbX)
  have HXE := Lib.hid hXe
  have HIX := Lib.hid hX
  have HBX := Lib.hid hbx0
  have HSZ := Lib.hid hbX.size
  unfold fourV
  simp only
  rcases ten_cases t with ⟨k, hk, rfl⟩ | ht
  · have HT := Lib.hid (tenant_in k hk)
    have HO := Lib.hid (fun id => owns_any b S F k id 0 X hX hk)
    have d0 := Joins.cell_of_block hbx0 0
    have d1 := Joins.cell_of_block hbx0 1
    have d2 := Joins.cell_of_block hbx0 2
    have d3 := Joins.cell_of_block hbx0 3
    simp at d0 d1 d2 d3
    have HG := Lib.hid hq
    have HE6 := Lib.hid (fun ho => JoinR.own (S := S) (q := (q0, q1, q2, q3)) hk ho)
    have HE8 := Lib.hid (fun ho hl => JoinR.lev (S := S) (q := (q0, q1, q2, q3)) hk ho hl)
    have HE0 := Lib.hid (fun ho hl r e S' hG => JoinR.gave (S := S) (S' := S') (r := r) (e := e) (q := (q0, q1, q2, q3)) hk ho hl hG)
    have i0 : ∀ W, (Instr.index 72 (.agg #[.int .i64 q0, .int .i64 q1, .int .i64 q2, .int .i64 q3]) (.int .i64 0)).run Try.prog W = .ok (.int .i64 q0) W := fun W => by kernel_rfl
    have i1 : ∀ W, (Instr.index 72 (.agg #[.int .i64 q0, .int .i64 q1, .int .i64 q2, .int .i64 q3]) (.int .i64 1)).run Try.prog W = .ok (.int .i64 q1) W := fun W => by kernel_rfl
    have i2 : ∀ W, (Instr.index 72 (.agg #[.int .i64 q0, .int .i64 q1, .int .i64 q2, .int .i64 q3]) (.int .i64 2)).run Try.prog W = .ok (.int .i64 q2) W := fun W => by kernel_rfl
    have i3 : ∀ W, (Instr.index 72 (.agg #[.int .i64 q0, .int .i64 q1, .int .i64 q2, .int .i64 q3]) (.int .i64 3)).run Try.prog W = .ok (.int .i64 q3) W := fun W => by kernel_rfl
    clear hXe h hX hbx0 hq hbX
    go_enter Try.func45, Try.ntmps45
    go_wp2_with fail
    rw [← HXE.out]
    refine (HT.out _).mono ?_
    rintro e X ⟨rfl, rfl⟩
    go_wp2_with fail
    refine wp_loop_rounds 5 ?_
    rw [rounds_succ]
    go_wp2_with fail
    refine (HO.out q0).mono ?_
    rintro e X ⟨rfl, rfl⟩
    obtain ⟨ob0, hob0⟩ : ∃ o, o = ownsA S.L k q0 0 := ⟨_, rfl⟩
    rw [← hob0]
    have HOB0 := Lib.hid hob0
    clear hob0
    cases ob0 with
    | false =>
      go_wp2_with fail
      go_ret2
      exact ⟨0, 6, S, F, rfl, HE6.out (by show (ownsA S.L k q0 0 && (ownsA S.L k q1 0 && (ownsA S.L k q2 0 && ownsA S.L k q3 0))) = false; rw [← HOB0.out]; simp), HIX.out, fun i hi => .inl hi, HKX.out⟩
    | true =>
    go_wp2_with fail
    rw [rounds_succ]
    go_wp2_with fail
    refine (HO.out q1).mono ?_
    rintro e X ⟨rfl, rfl⟩
    obtain ⟨ob1, hob1⟩ : ∃ o, o = ownsA S.L k q1 0 := ⟨_, rfl⟩
    rw [← hob1]
    have HOB1 := Lib.hid hob1
    clear hob1
    cases ob1 with
    | false =>
      go_wp2_with fail
      go_ret2
      exact ⟨0, 6, S, F, rfl, HE6.out (by show (ownsA S.L k q0 0 && (ownsA S.L k q1 0 && (ownsA S.L k q2 0 && ownsA S.L k q3 0))) = false; rw [← HOB1.out]; simp), HIX.out, fun i hi => .inl hi, HKX.out⟩
    | true =>
    go_wp2_with fail
    rw [rounds_succ]
    go_wp2_with fail
    refine (HO.out q2).mono ?_
    rintro e X ⟨rfl, rfl⟩
    obtain ⟨ob2, hob2⟩ : ∃ o, o = ownsA S.L k q2 0 := ⟨_, rfl⟩
    rw [← hob2]
    have HOB2 := Lib.hid hob2
    clear hob2
    cases ob2 with
    | false =>
      go_wp2_with fail
      go_ret2
      exact ⟨0, 6, S, F, rfl, HE6.out (by show (ownsA S.L k q0 0 && (ownsA S.L k q1 0 && (ownsA S.L k q2 0 && ownsA S.L k q3 0))) = false; rw [← HOB2.out]; simp), HIX.out, fun i hi => .inl hi, HKX.out⟩
    | true =>
    go_wp2_with fail
    rw [rounds_succ]
    go_wp2_with fail
    refine (HO.out q3).mono ?_
    rintro e X ⟨rfl, rfl⟩
    obtain ⟨ob3, hob3⟩ : ∃ o, o = ownsA S.L k q3 0 := ⟨_, rfl⟩
    rw [← hob3]
    have HOB3 := Lib.hid hob3
    clear hob3
    cases ob3 with
    | false =>
      go_wp2_with fail
      go_ret2
      exact ⟨0, 6, S, F, rfl, HE6.out (by show (ownsA S.L k q0 0 && (ownsA S.L k q1 0 && (ownsA S.L k q2 0 && ownsA S.L k q3 0))) = false; rw [← HOB3.out]; simp), HIX.out, fun i hi => .inl hi, HKX.out⟩
    | true =>
    go_wp2_with fail
    rw [rounds_succ]
    go_wp2_with fail
    have hown : ownAll S.L k (q0, q1, q2, q3) = true := by
      show (ownsA S.L k q0 0 && (ownsA S.L k q1 0 && (ownsA S.L k q2 0 && ownsA S.L k q3 0))) = true
      rw [← HOB0.out, ← HOB1.out, ← HOB2.out, ← HOB3.out]; rfl
    obtain ⟨arr, v1, v3, bm, n, fr, g, vs, hA⟩ := id HIX.out
    have h2 := hA.ok.two
    obtain ⟨n0, rfl, hn0⟩ := owns_place HOB0.out.symm h2
    obtain ⟨n1, rfl, hn1⟩ := owns_place HOB1.out.symm h2
    obtain ⟨n2, rfl, hn2⟩ := owns_place HOB2.out.symm h2
    obtain ⟨n3, rfl, hn3⟩ := owns_place HOB3.out.symm h2
    obtain ⟨q, o, c, rfl, hFq, hqb, hent⟩ := hA.ents
    have c1 := (hA.cell 1).trans hA.c1
    have HOWN := Lib.hid hown
    obtain ⟨l0, hl0⟩ : ∃ l, l = lvA S.L n0 := ⟨_, rfl⟩
    obtain ⟨l1, hl1⟩ : ∃ l, l = lvA S.L n1 := ⟨_, rfl⟩
    obtain ⟨l2, hl2⟩ : ∃ l, l = lvA S.L n2 := ⟨_, rfl⟩
    obtain ⟨l3, hl3⟩ : ∃ l, l = lvA S.L n3 := ⟨_, rfl⟩
    obtain ⟨v0, w0⟩ := hA.lev hent hn0
    have v1' := (hA.lev hent hn1).1
    have v2' := (hA.lev hent hn2).1
    have v3' := (hA.lev hent hn3).1
    rw [← hl0] at v0 w0
    rw [← hl1] at v1'
    rw [← hl2] at v2'
    rw [← hl3] at v3'
    have hLV : lvAll S.L ((n0 : Int), (n1 : Int), (n2 : Int), (n3 : Int)) = (decide (l0 < 44) && (decide (l1 = l0) && (decide (l2 = l0) && decide (l3 = l0)))) := by rw [hl0, hl1, hl2, hl3]; rfl
    have HLV := Lib.hid hLV
    have HL0 := Lib.hid hl0
    obtain ⟨N, hN⟩ : ∃ N, N = S.L.length := ⟨_, rfl⟩
    rw [← hN] at c1 hn0 hn1 hn2 hn3
    have hlo : -9223372036854775808 ≤ l0 := by unfold I64 at w0; omega
    clear hN hLV hl0 hl1 hl2 hl3 hown hent hA h2 w0 hFq hqb
    go_quiet (fail)
    obtain ⟨X1, hX1⟩ : ∃ Y, Y = X.drewN nq := ⟨_, rfl⟩
    rw [← hX1]
    have hcx : ∀ p : Addr, X1.cell? p = X.cell? p := fun p => by rw [hX1]; rfl
    have hIX1 : IsAr b S X1 F := by rw [hX1]; exact HIX.out.keep ((Keeps.refl (fun _ => False) X).drewN nq) (fun _ _ h => h)
    have hKX1 : Keeps F w X1 := by rw [hX1]; exact HKX.out.drewN nq
    rw [← hcx] at c1 v0 v1' v2' v3' d0 d1 d2 d3
    have HIX1 := Lib.hid hIX1
    have HKX1 := Lib.hid hKX1
    clear hX1 hcx hIX1 hKX1
    go_wp2_with fail
    refine wp_loop_rounds 5 ?_
    by_cases h44 : l0 < 44
    · have t1 : decide (l0 ≥ 44) = false := decide_eq_false (by omega)
      have t2 : decide (44 ≤ l0) = false := decide_eq_false (by omega)
      rw [rounds_succ]
      go_wp2_with fail
      by_cases e1 : l1 = l0
      · subst e1
        rw [rounds_succ]
        go_wp2_with fail
        by_cases e2 : l2 = l1
        · subst e2
          rw [rounds_succ]
          go_wp2_with fail
          by_cases e3 : l3 = l2
          · subst e3
            rw [rounds_succ]
            go_wp2_with fail
            rw [rounds_succ]
            go_wp2_with fail
            have hgv := give_any sweepOk b S F k (0, (n0 : Int), (n1 : Int), (n2 : Int), (n3 : Int)) (l3 + 1) 0 X1 HIX1.out hk ⟨by show I64 0; unfold I64; omega, HG.out.1, HG.out.2.1, HG.out.2.2.1, HG.out.2.2.2⟩ ⟨by unfold I64; omega, by unfold I64; omega⟩
            unfold keyA at hgv
            refine hgv.mono ?_
            rintro e w4 ⟨r, er, S', F', rfl, h1, h3, h4, h5⟩
            have HR := Lib.hid (HE0.out HOWN.out (by rw [HLV.out, decide_eq_true h44]; simp) r er S' (by rw [← HL0.out]; exact h1))
            have HI := Lib.hid h3
            have HF := Lib.hid (show ∀ i, F' i → F i ∨ w.heap.size ≤ i from fun i hi => (h4 i hi).imp id (fun h => by have := HKX1.out.size; omega))
            have HK := Lib.hid (HKX1.out.trans h5 (fun _ _ h => h))
            clear hgv h1 h3 h4 h5
            go_wp2_with fail
            go_ret2
            exact ⟨r, er, S', F', rfl, HR.out, HI.out, HF.out, HK.out⟩
          · have g1 : (l3 == l2) = false := by simpa using e3
            have g2 : (l3 != l2) = true := by simpa using e3
            have HX8 := Lib.hid (HE8.out HOWN.out (by rw [HLV.out, decide_eq_false e3]; simp))
            rw [rounds_succ]
            go_wp2_with fail
            go_ret2
            exact ⟨0, 8, S, F, rfl, HX8.out, HIX1.out, fun i hi => .inl hi, HKX1.out⟩
        · have g1 : (l2 == l1) = false := by simpa using e2
          have g2 : (l2 != l1) = true := by simpa using e2
          have HX8 := Lib.hid (HE8.out HOWN.out (by rw [HLV.out, decide_eq_false e2]; simp))
          rw [rounds_succ]
          go_wp2_with fail
          go_ret2
          exact ⟨0, 8, S, F, rfl, HX8.out, HIX1.out, fun i hi => .inl hi, HKX1.out⟩
      · have g1 : (l1 == l0) = false := by simpa using e1
        have g2 : (l1 != l0) = true := by simpa using e1
        have HX8 := Lib.hid (HE8.out HOWN.out (by rw [HLV.out, decide_eq_false e1]; simp))
        rw [rounds_succ]
        go_wp2_with fail
        go_ret2
        exact ⟨0, 8, S, F, rfl, HX8.out, HIX1.out, fun i hi => .inl hi, HKX1.out⟩
    · have t1 : decide (l0 ≥ 44) = true := decide_eq_true (by omega)
      have t2 : decide (44 ≤ l0) = true := decide_eq_true (by omega)
      have HX8 := Lib.hid (HE8.out HOWN.out (by rw [HLV.out, decide_eq_false h44]; rfl))
      rw [rounds_succ]
      go_wp2_with fail
      go_ret2
      exact ⟨0, 8, rfl, S, HX8.out, F, HIX1.out, fun i hi => .inl hi, HKX1.out⟩
  · have HT := Lib.hid (tenant_out t ht)
    have HE3 := Lib.hid (JoinR.out (S := S) (q := (q0, q1, q2, q3)) ht)
    clear h hX hbx0 hq hXe hbX
    go_enter Try.func45, Try.ntmps45
    go_wp2_with fail
    rw [← HXE.out]
    refine (HT.out _).mono ?_
    rintro e X ⟨rfl, rfl⟩
    go_wp2_with fail
    go_ret2
    exact ⟨0, 3, S, F, rfl, HE3.out, HIX.out, fun i hi => .inl hi, HKX.out⟩
end Go.Proofs.Ytabhpbkkjijfjaa
namespace Go.Proofs.Ytabhpbkkjijfjaa
set_option maxRecDepth 100000
open Go.RowKit

theorem set4 {w : World} {g : Nat} {ty : TypeId} {a0 a1 a2 a3 b0 b1 b2 b3 : Value} (h : w.heap[g]? = some (.cells #[a0, a1, a2, a3] ty (0, 0))) :
    ((((w.setCell ⟨g, 0, none⟩ b0).setCell ⟨g, 1, none⟩ b1).setCell ⟨g, 2, none⟩ b2).setCell ⟨g, 3, none⟩ b3).heap[g]? = some (.cells #[b0, b1, b2, b3] ty (0, 0)) :=
  Joins.block_setCell (Joins.block_setCell (Joins.block_setCell (Joins.block_setCell h b0) b1) b2) b3
theorem wp_named {P : Program} {c : Code} {Q : Exit → Act → World → Prop} {a : Act} {w : World} (h : ∀ W, W = w → c.wp P Q a W) : c.wp P Q a w := h w rfl
end Go.Proofs.Ytabhpbkkjijfjaa
