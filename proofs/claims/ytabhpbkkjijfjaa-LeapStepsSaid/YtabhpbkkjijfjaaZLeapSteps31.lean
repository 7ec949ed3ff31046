/-
  A square's middle 2^j steps later, as a function on trees: plain; arena.Note.
-/
import Derived.Test.YtabhpbkkjijfjaaZLeapSteps30
import Derived.Test.YtabhpbkkjijfjaaZLeapSteps20
namespace Go.Proofs.Ytabhpbkkjijfjaa
set_option maxRecDepth 100000

/-- A rule as one number. -/
def codeR (B Lv : Int) : Int := B * 512 + Lv
/-- A cell of four by four. -/
def gB (T : Tree) (y x : Nat) : Bool := getT 0 (gridT T y x) 0 0
def nearG (T : Tree) (y x : Nat) : Int := b2i (gB T (y - 1) (x - 1)) + b2i (gB T (y - 1) x) + b2i (gB T (y - 1) (x + 1)) + b2i (gB T y (x - 1)) + b2i (gB T y (x + 1)) + b2i (gB T (y + 1) (x - 1)) + b2i (gB T (y + 1) x) + b2i (gB T (y + 1) (x + 1))
def smallQ (b l : Int) (T : Tree) (y x : Nat) : Bool := livesF b l (gB T y x) (nearG T y x)
def smallT (b l : Int) (T : Tree) : Tree := .node (.leaf (smallQ b l T 1 1)) (.leaf (smallQ b l T 1 2)) (.leaf (smallQ b l T 2 1)) (.leaf (smallQ b l T 2 2))
theorem leap_small {b l : Int} {T : Tree} (h : Full 2 T) : LeapOk b l 0 T 1 (smallT b l T) := by
  refine ⟨⟨trivial, trivial, trivial, trivial⟩, fun f X Y ha => ?_⟩
  have g : ∀ y x : Nat, y < 4 → x < 4 → f (X + x) (Y + y) = gB T y x := fun y x hy hx => by
    have := agree_grid (n := 0) h ha hy hx 0 0 (by omega) (by decide) (by omega) (by decide)
    unfold gB
    simpa using this
  have hs : ∀ y x : Nat, 1 ≤ y → y < 3 → 1 ≤ x → x < 3 → iterP b l 1 f (X + x) (Y + y) = smallQ b l T y x := fun y x h1 h2 h3 h4 => by
    obtain ⟨y, rfl⟩ : ∃ k, y = k + 1 := ⟨y - 1, by omega⟩
    obtain ⟨x, rfl⟩ : ∃ k, x = k + 1 := ⟨x - 1, by omega⟩
    show livesF b l (f (X + (x + 1 : Nat)) (Y + (y + 1 : Nat))) (nearP f (X + (x + 1 : Nat)) (Y + (y + 1 : Nat))) = _
    unfold nearP smallQ nearG
    have ex : X + ((x + 1 : Nat) : Int) - 1 = X + (x : Nat) := by omega
    have ex2 : X + ((x + 1 : Nat) : Int) + 1 = X + (x + 2 : Nat) := by omega
    have ey : Y + ((y + 1 : Nat) : Int) - 1 = Y + (y : Nat) := by omega
    have ey2 : Y + ((y + 1 : Nat) : Int) + 1 = Y + (y + 2 : Nat) := by omega
    rw [ex, ex2, ey, ey2, g (y + 1) (x + 1) (by omega) (by omega), g y x (by omega) (by omega), g y (x + 1) (by omega) (by omega), g y (x + 2) (by omega) (by omega), g (y + 1) x (by omega) (by omega), g (y + 1) (x + 2) (by omega) (by omega), g (y + 2) x (by omega) (by omega), g (y + 2) (x + 1) (by omega) (by omega), g (y + 2) (x + 2) (by omega) (by omega)]
    rfl
  have hl : ∀ (y x : Nat), 1 ≤ y → y < 3 → 1 ≤ x → x < 3 → Agree 0 (.leaf (smallQ b l T y x)) (iterP b l 1 f) (X + x) (Y + y) := fun y x h1 h2 h3 h4 u v hu0 hu1 hv0 hv1 => by
    have e : (2 : Int) ^ 0 = 1 := rfl
    rw [e] at hu1 hv1
    obtain rfl : u = 0 := by omega
    obtain rfl : v = 0 := by omega
    rw [Int.add_zero, Int.add_zero, hs y x h1 h2 h3 h4]
    rfl
  refine agree_four.2 ⟨?_, ?_, ?_, ?_⟩
  · have := hl 1 1 (by omega) (by omega) (by omega) (by omega)
    simpa using this
  · have := hl 1 2 (by omega) (by omega) (by omega) (by omega)
    simpa [Int.add_assoc] using this
  · have := hl 2 1 (by omega) (by omega) (by omega) (by omega)
    simpa [Int.add_assoc] using this
  · have := hl 2 2 (by omega) (by omega) (by omega) (by omega)
    simpa [Int.add_assoc] using this
/-- The square of four by four joined out of a grid, and its middle. -/
def sqG (g : Nat → Nat → Tree) (y x : Nat) : Tree := .node (g y x) (g y (x + 1)) (g (y + 1) x) (g (y + 1) (x + 1))
def midT (T : Tree) : Tree := sqG (gridT T) 1 1
/-- What result makes of a square of level n + 2. -/
def leapT (b l : Int) : Nat → Nat → Tree → Tree
  | 0, _, T => smallT b l T
  | m + 1, j, T =>
    let N := fun y x => if j = m + 1 then leapT b l m (j - 1) (sqG (gridT T) y x) else midT (sqG (gridT T) y x)
    let Q := fun y x => leapT b l m (if j = m + 1 then j - 1 else j) (sqG N y x)
    .node (Q 0 0) (Q 0 1) (Q 1 0) (Q 1 1)
theorem full_sq {n : Nat} {g : Nat → Nat → Tree} {y x : Nat} (h : ∀ y x, Full n (g y x)) : Full (n + 1) (sqG g y x) := ⟨h _ _, h _ _, h _ _, h _ _⟩
theorem leapT_ok {b l : Int} : ∀ {n j : Nat} {T : Tree}, Full (n + 2) T → j ≤ n → LeapOk b l n T (2 ^ j) (leapT b l n j T)
  | 0, j, T, h, hj => by
    obtain rfl : j = 0 := by omega
    exact leap_small h
  | m + 1, j, T, h, hj => by
    have hg := fun y x => full_grid (n := m + 1) h y x
    by_cases e : j = m + 1
    · subst e
      rw [show 2 ^ (m + 1) = 2 ^ m + 2 ^ m by rw [Nat.pow_succ]; omega]
      have := leap_large (b := b) (l := l) (m := m) (p := 2 ^ m) (q := 2 ^ m) (T := T) (N := fun y x => leapT b l m m (sqG (gridT T) y x)) (Q := fun y x => leapT b l m m (sqG (fun y x => leapT b l m m (sqG (gridT T) y x)) y x)) h
        (fun y x _ _ => leapT_ok (full_sq (g := gridT T) hg) (Nat.le_refl _))
        (fun y x _ _ => leapT_ok (full_sq (g := fun y x => leapT b l m m (sqG (gridT T) y x)) fun y x => (leapT_ok (full_sq (g := gridT T) hg) (Nat.le_refl _)).full) (Nat.le_refl _))
      simpa [leapT] using this
    · have := leap_large (b := b) (l := l) (m := m) (p := 0) (q := 2 ^ j) (T := T) (N := fun y x => midT (sqG (gridT T) y x)) (Q := fun y x => leapT b l m j (sqG (fun y x => midT (sqG (gridT T) y x)) y x)) h
        (fun y x _ _ => leap_mid (full_sq (g := gridT T) hg))
        (fun y x _ _ => leapT_ok (full_sq (g := fun y x => midT (sqG (gridT T) y x)) fun y x => (leap_mid (b := b) (l := l) (full_sq (g := gridT T) hg)).full) (by omega))
      simpa [leapT, e] using this
end Go.Proofs.Ytabhpbkkjijfjaa
namespace Go.Proofs.Ytabhpbkkjijfjaa
set_option maxRecDepth 100000
open Go.RowKit

/-- What Note comes to. -/
def NoteR (S : ArS) (t sq rl j va e : Int) (S' : ArS) : Prop :=
  if tenB t = false then e = 6 ∧ S' = S else
  if (ownsA S.L t.toNat sq 0 && ownsA S.L t.toNat va 0) = false then e = 6 ∧ S' = S else
  (∃ i x, HasKey S.L (1, sq, rl, j, 0) i x ∧ x.va ≠ va ∧ e = 7 ∧ S' = S) ∨
  ((∀ i x, HasKey S.L (1, sq, rl, j, 0) i x → x.va = va) ∧ ∃ r, Gave S t.toNat (1, sq, rl, j, 0) 0 va r e S')
theorem NoteR.out {S : ArS} {t sq rl j va : Int} (h : t < 0 ∨ 64 ≤ t) : NoteR S t sq rl j va 6 S := by
  unfold NoteR; rw [if_pos (tenB_out h)]; exact ⟨rfl, rfl⟩
theorem NoteR.own {S : ArS} {t : Nat} {sq rl j va : Int} (h : t < 64) (ho : (ownsA S.L t sq 0 && ownsA S.L t va 0) = false) : NoteR S t sq rl j va 6 S := by
  unfold NoteR; rw [if_neg (by rw [tenB_in h]; decide), if_pos (by rw [Int.toNat_natCast]; exact ho)]; exact ⟨rfl, rfl⟩
theorem NoteR.rest {S S' : ArS} {t : Nat} {sq rl j va e : Int} (h : t < 64) (ho : (ownsA S.L t sq 0 && ownsA S.L t va 0) = true) (hr : (∃ i x, HasKey S.L (1, sq, rl, j, 0) i x ∧ x.va ≠ va ∧ e = 7 ∧ S' = S) ∨ ((∀ i x, HasKey S.L (1, sq, rl, j, 0) i x → x.va = va) ∧ ∃ r, Gave S t (1, sq, rl, j, 0) 0 va r e S')) : NoteR S t sq rl j va e S' := by
  unfold NoteR; rw [if_neg (by rw [tenB_in h]; decide), if_neg (by rw [Int.toNat_natCast, ho]; decide), Int.toNat_natCast]; exact hr
set_option maxHeartbeats 8000000 in
set_option maxRecDepth 100000 in
theorem note_any (b : Nat) (S : ArS) (F : Nat → Prop) (t sq rl j va : Int) (w : World) (h : IsAr b S w F) (h1 : I64 sq) (h2 : I64 rl) (h3 : I64 j) (h4 : I64 va) :
    Calls Try.prog 54 #[.pointer (some ⟨b, 0, none⟩), .int .i64 t, .int .i64 sq, .int .i64 rl, .int .i64 j, .int .i64 va] w fun e w' => ∃ (er : Int) (S' : ArS) (F' : Nat → Prop), e = .returned (.int .i64 er) ∧ NoteR S t sq rl j va er S' ∧ IsAr b S' w' F' ∧ (∀ i, F' i → F i ∨ w.heap.size ≤ i) ∧ Keeps F w w' := by
  rcases ten_cases t with ⟨k, hk, rfl⟩ | ht
  · have HT := Lib.hid (tenant_in k hk)
    have ho1 := owns_any b S F k sq 0 w h hk
    have ho2 := owns_any b S F k va 0 w h hk
    obtain ⟨o1, e1⟩ : ∃ o, o = ownsA S.L k sq 0 := ⟨_, rfl⟩
    obtain ⟨o2, e2⟩ : ∃ o, o = ownsA S.L k va 0 := ⟨_, rfl⟩
    rw [← e1] at ho1
    rw [← e2] at ho2
    have HO1 := Lib.hid ho1
    have HO2 := Lib.hid ho2
    have HE1 := Lib.hid e1
    have HE2 := Lib.hid e2
    have HI := Lib.hid h
    have HG := Lib.hid (show I64 sq ∧ I64 rl ∧ I64 j ∧ I64 va from ⟨h1, h2, h3, h4⟩)
    have HE6 := Lib.hid (fun ho => NoteR.own (S := S) (sq := sq) (rl := rl) (j := j) (va := va) hk ho)
    have HRR := Lib.hid (fun (S' : ArS) (e : Int) ho hr => NoteR.rest (S := S) (S' := S') (sq := sq) (rl := rl) (j := j) (va := va) (e := e) hk ho hr)
    clear h ho1 ho2 e1 e2
    cases o1 with
    | false =>
      go_enter Try.func54, Try.ntmps54
      go_wp2_with fail
      refine (HT.out _).mono ?_
      rintro e X ⟨rfl, rfl⟩
      go_wp2_with fail
      refine HO1.out.mono ?_
      rintro e X ⟨rfl, rfl⟩
      go_wp2_with fail
      go_ret
      exact ⟨6, S, F, rfl, HE6.out (by rw [← HE1.out]; rfl), HI.out, fun i hi => .inl hi, Keeps.refl _ _⟩
    | true =>
      cases o2 with
      | false =>
        go_enter Try.func54, Try.ntmps54
        go_wp2_with fail
        refine (HT.out _).mono ?_
        rintro e X ⟨rfl, rfl⟩
        go_wp2_with fail
        refine HO1.out.mono ?_
        rintro e X ⟨rfl, rfl⟩
        go_wp2_with fail
        refine HO2.out.mono ?_
        rintro e X ⟨rfl, rfl⟩
        go_wp2_with fail
        go_ret
        exact ⟨6, S, F, rfl, HE6.out (by rw [← HE1.out, ← HE2.out]; rfl), HI.out, fun i hi => .inl hi, Keeps.refl _ _⟩
      | true =>
        have HOO := Lib.hid (show (ownsA S.L k sq 0 && ownsA S.L k va 0) = true by rw [← HE1.out, ← HE2.out]; rfl)
        obtain ⟨X, hXe⟩ : ∃ X, X = w.alloc (.cells #[.int .i64 1, .int .i64 sq, .int .i64 rl, .int .i64 j, .int .i64 0] 92 (0, 0)) := ⟨_, rfl⟩
        have hbX : Below w.heap.size w X := by rw [hXe]; exact (Below.refl _ _).alloc (Nat.le_refl _) _
        have hIX := HI.out.below hbX
        have hkb : X.heap[w.heap.size]? = some (.cells #[.int .i64 1, .int .i64 sq, .int .i64 rl, .int .i64 j, .int .i64 0] 92 (0, 0)) := by rw [hXe]; exact blk_last w _ rfl
        have d0 := Joins.cell_of_block hkb 0
        have d1 := Joins.cell_of_block hkb 1
        have d2 := Joins.cell_of_block hkb 2
        have d3 := Joins.cell_of_block hkb 3
        have d4 := Joins.cell_of_block hkb 4
        simp at d0 d1 d2 d3 d4
        have hGG : GoodA (1, sq, rl, j, 0) := ⟨by show I64 1; unfold I64; omega, h1, h2, h3, by show I64 0; unfold I64; omega⟩
        have HGG := Lib.hid hGG
        obtain ⟨arr, v1, v3, bm, n, fr, g, vs, hA⟩ := id hIX
        have hlook := fun nq => (hA.keep ((Keeps.refl (fun _ => False) X).drewN nq) (fun _ _ h => h)).look (1, sq, rl, j, 0) hGG
        unfold keyA at hlook
        simp only at hlook
        have c2 := (hA.cell 2).trans hA.c2
        have hsz : b < X.heap.size := lt_of_block hA.own
        have HIX := Lib.hid hIX
        have HKX := Lib.hid (Keeps.of_below (F := F) hbX)
        have HXE := Lib.hid hXe
        have HKB := Lib.hid hkb
        cases hf : findK S.L (1, sq, rl, j, 0) with
        | none =>
          rw [hf] at hlook
          simp only [Option.getD_none, Option.isSome_none, Int.natCast_zero] at hlook
          have HNK := Lib.hid (findK_none hf)
          clear hA hf hXe hbX hIX hkb hGG h1 h2 h3 h4
          go_enter Try.func54, Try.ntmps54
          go_wp2_with fail
          refine (HT.out _).mono ?_
          rintro e X0 ⟨rfl, rfl⟩
          go_wp2_with fail
          refine HO1.out.mono ?_
          rintro e X0 ⟨rfl, rfl⟩
          go_wp2_with fail
          refine HO2.out.mono ?_
          rintro e X0 ⟨rfl, rfl⟩
          go_upto_region 6 with fail
          rw [← HXE.out]
          go_quiet (fail)
          obtain ⟨X1, hX1⟩ : ∃ Y, Y = X.drewN nq := ⟨_, rfl⟩
          rw [← hX1]
          have hcx : ∀ p : Addr, X1.cell? p = X.cell? p := fun p => by rw [hX1]; rfl
          rw [← hcx] at d0 d1 d2 d3 d4
          have HI1 := Lib.hid (show IsAr b S X1 F by rw [hX1]; exact HIX.out.keep ((Keeps.refl (fun _ => False) X).drewN nq) (fun _ _ h => h))
          have HK1 := Lib.hid (HKX.out.trans ((Keeps.refl (fun _ => False) X).drewN nq) (fun _ _ h => h.elim))
          rw [← hX1] at HK1
          have hgv := give_any sweepOk b S F k (1, sq, rl, j, 0) 0 va X1 HI1.out hk HGG.out ⟨by unfold I64; omega, HG.out.2.2.2⟩
          unfold keyA at hgv
          simp only at hgv
          have HGV := Lib.hid hgv
          clear hX1 hcx hlook c2 hgv
          go_wp2_with fail
          refine HGV.out.mono ?_
          rintro e w4 ⟨r, er, S', F', rfl, g1, g3, g4, g5⟩
          have HR := Lib.hid (HRR.out S' er HOO.out (.inr ⟨fun i x hx => absurd hx (HNK.out i x), r, g1⟩))
          have HI4 := Lib.hid g3
          have HF4 := Lib.hid (show ∀ i, F' i → F i ∨ X0.heap.size ≤ i from fun i hi => (g4 i hi).imp id (fun h => by have := HK1.out.size; omega))
          have HK4 := Lib.hid (HK1.out.trans g5 (fun _ _ h => h))
          clear g1 g3 g4 g5
          go_wp2_with fail
          go_ret
          exact ⟨er, S', F', rfl, HR.out, HI4.out, HF4.out, HK4.out⟩
        | some i =>
          rw [hf] at hlook
          simp only [Option.getD_some, Option.isSome_some] at hlook
          obtain ⟨x, hx, hxk⟩ := (findK_iff hA.ok).1 hf
          have hHK : HasKey S.L (1, sq, rl, j, 0) i x := ⟨hx, hxk⟩
          have huq := hA.ok.uniq
          have HUQ := Lib.hid (show ∀ i' x', HasKey S.L (1, sq, rl, j, 0) i' x' → x' = x from fun i' x' ⟨a1, a2⟩ => by
            have := huq i' i x' x a1 hx (a2.trans hxk.symm)
            subst this
            rw [hx] at a1
            cases a1; rfl)
          have hi := atL_lt hx
          have hu := atL_some.1 hx
          obtain ⟨q, o, c, rfl, hFq, hqb, hent⟩ := hA.ents
          have c1 := (hA.cell 1).trans hA.c1
          have e6 := hent i _ hu 6 (by omega)
          simp only [encO, Option.getD_some, encEnt, List.getElem?_cons_zero, List.getElem?_cons_succ] at e6
          obtain ⟨N, hN⟩ : ∃ N, N = S.L.length := ⟨_, rfl⟩
          rw [← hN] at c1 hi
          obtain ⟨xv, hxv⟩ : ∃ v, v = x.va := ⟨_, rfl⟩
          rw [← hxv] at e6
          have HXV := Lib.hid hxv
          have HHK := Lib.hid hHK
          clear hA hf hXe hbX hIX hkb hGG h1 h2 h3 h4 hxk hx hHK huq hu hent hN hxv hFq hqb
          go_enter Try.func54, Try.ntmps54
          go_wp2_with fail
          refine (HT.out _).mono ?_
          rintro e X0 ⟨rfl, rfl⟩
          go_wp2_with fail
          refine HO1.out.mono ?_
          rintro e X0 ⟨rfl, rfl⟩
          go_wp2_with fail
          refine HO2.out.mono ?_
          rintro e X0 ⟨rfl, rfl⟩
          go_upto_region 6 with fail
          rw [← HXE.out]
          go_quiet (fail)
          obtain ⟨X1, hX1⟩ : ∃ Y, Y = X.drewN nq := ⟨_, rfl⟩
          rw [← hX1]
          have hcx : ∀ p : Addr, X1.cell? p = X.cell? p := fun p => by rw [hX1]; rfl
          rw [← hcx] at d0 d1 d2 d3 d4 c1 e6
          have HI1 := Lib.hid (show IsAr b S X1 F by rw [hX1]; exact HIX.out.keep ((Keeps.refl (fun _ => False) X).drewN nq) (fun _ _ h => h))
          have HK1 := Lib.hid (HKX.out.trans ((Keeps.refl (fun _ => False) X).drewN nq) (fun _ _ h => h.elim))
          rw [← hX1] at HK1
          clear hX1 hcx hlook c2
          by_cases hv : xv = va
          · subst hv
            have hgv := give_any sweepOk b S F k (1, sq, rl, j, 0) 0 xv X1 HI1.out hk HGG.out ⟨by unfold I64; omega, HG.out.2.2.2⟩
            unfold keyA at hgv
            simp only at hgv
            have HGV := Lib.hid hgv
            clear hgv
            go_wp2_with fail
            refine HGV.out.mono ?_
            rintro e w4 ⟨r, er, S', F', rfl, g1, g3, g4, g5⟩
            have HR := Lib.hid (HRR.out S' er HOO.out (.inr ⟨fun i' x' hx' => by rw [HUQ.out i' x' hx', ← HXV.out], r, g1⟩))
            have HI4 := Lib.hid g3
            have HF4 := Lib.hid (show ∀ i, F' i → F i ∨ X0.heap.size ≤ i from fun i hi => (g4 i hi).imp id (fun h => by have := HK1.out.size; omega))
            have HK4 := Lib.hid (HK1.out.trans g5 (fun _ _ h => h))
            clear g1 g3 g4 g5
            go_wp2_with fail
            go_ret
            exact ⟨er, S', F', rfl, HR.out, HI4.out, HF4.out, HK4.out⟩
          · have v1 : (xv == va) = false := by simpa using hv
            have v2 : (xv != va) = true := by simpa using hv
            have HR := Lib.hid (HRR.out S 7 HOO.out (.inl ⟨i, x, HHK.out, by rw [← HXV.out]; exact hv, rfl, rfl⟩))
            clear hv
            go_wp2_with fail
            go_ret
            exact ⟨7, S, F, rfl, HR.out, HI1.out, fun i hi => .inl hi, HK1.out⟩
  · have HT := Lib.hid (tenant_out t ht)
    have HE := Lib.hid (NoteR.out (S := S) (sq := sq) (rl := rl) (j := j) (va := va) ht)
    have HI := Lib.hid h
    clear h
    go_enter Try.func54, Try.ntmps54
    go_wp2_with fail
    refine (HT.out _).mono ?_
    rintro e X ⟨rfl, rfl⟩
    go_wp2_with fail
    go_ret
    exact ⟨6, S, F, rfl, HE.out, HI.out, fun i hi => .inl hi, Keeps.refl _ _⟩
end Go.Proofs.Ytabhpbkkjijfjaa
