/-
  quad.From; Maps whose keys are numbers; quad's Count: how many cells live in a square.
-/
import Derived.Test.YtabhpbkkjijfjaaZLeapStepsQBuild
import Derived.Test.YtabhpbkkjijfjaaZLeapStepsTidies
import Derived.Test.YtabhpbkkjijfjaaZLeapSteps2
import Derived.Test.YtabhpbkkjijfjaaZLeapSteps9
namespace Go.Proofs.Ytabhpbkkjijfjaa
set_option maxRecDepth 100000
open Go.RowKit

def Within (k : Int) (zs : CellL) : Prop := ∀ z ∈ zs, -k ≤ z.1 ∧ z.1 < k ∧ -k ≤ z.2 ∧ z.2 < k
def BoxIn (k : Int) (b : BoxD) : Prop := -k ≤ b.x0 ∧ -k ≤ b.y0 ∧ b.x1 < k ∧ b.y1 < k
theorem boxIn_fold (k : Int) : ∀ (l : CellL) (b : BoxD), BoxIn k (l.foldl boxStep b) ↔ BoxIn k b ∧ Within k l
  | [], b => by simp [Within]
  | c :: l, b => by
    rw [List.foldl_cons, boxIn_fold k l]
    unfold BoxIn boxStep Within
    simp only [List.mem_cons, forall_eq_or_imp]
    constructor
    · rintro ⟨⟨h1, h2, h3, h4⟩, h5⟩
      refine ⟨⟨by omega, by omega, by omega, by omega⟩, ⟨by omega, by omega, by omega, by omega⟩, h5⟩
    · rintro ⟨⟨h1, h2, h3, h4⟩, ⟨h6, h7, h8, h9⟩, h5⟩
      refine ⟨⟨by omega, by omega, by omega, by omega⟩, h5⟩
theorem boxIn_iff {k : Int} {zs : CellL} (h : zs ≠ []) : BoxIn k (boxF zs) ↔ Within k zs := by
  cases zs with
  | nil => exact absurd rfl h
  | cons c l =>
    show BoxIn k (((c :: l).take (c :: l).length).foldl boxStep (boxFrom c)) ↔ _
    rw [List.take_length, boxIn_fold]
    unfold BoxIn boxFrom Within
    simp only [List.mem_cons, forall_eq_or_imp]
    constructor
    · rintro ⟨_, h⟩; exact h
    · rintro ⟨⟨h1, h2, h3, h4⟩, h⟩; exact ⟨⟨h1, h3, h2, h4⟩, ⟨h1, h2, h3, h4⟩, h⟩
theorem box_lo {zs : CellL} (h : zs ≠ []) : ∀ z ∈ zs, (boxF zs).x0 ≤ z.1 ∧ (boxF zs).y0 ≤ z.2 := by
  have key : ∀ (l : CellL) (b : BoxD), ((l.foldl boxStep b).x0 ≤ b.x0 ∧ (l.foldl boxStep b).y0 ≤ b.y0) ∧ ∀ z ∈ l, (l.foldl boxStep b).x0 ≤ z.1 ∧ (l.foldl boxStep b).y0 ≤ z.2 := by
    intro l
    induction l with
    | nil => intro b; exact ⟨⟨Int.le_refl _, Int.le_refl _⟩, fun z hz => by cases hz⟩
    | cons c l ih =>
      intro b
      rw [List.foldl_cons]
      obtain ⟨⟨h1, h2⟩, h3⟩ := ih (boxStep b c)
      have e1 : (boxStep b c).x0 ≤ b.x0 ∧ (boxStep b c).x0 ≤ c.1 ∧ (boxStep b c).y0 ≤ b.y0 ∧ (boxStep b c).y0 ≤ c.2 := by
        unfold boxStep; simp only; omega
      refine ⟨⟨by omega, by omega⟩, fun z hz => ?_⟩
      rcases List.mem_cons.1 hz with rfl | hz
      · exact ⟨by omega, by omega⟩
      · exact h3 z hz
  cases zs with
  | nil => exact absurd rfl h
  | cons c l =>
    show ∀ z ∈ c :: l, (((c :: l).take (c :: l).length).foldl boxStep (boxFrom c)).x0 ≤ z.1 ∧ (((c :: l).take (c :: l).length).foldl boxStep (boxFrom c)).y0 ≤ z.2
    rw [List.take_length]
    exact (key (c :: l) _).2
/-- The least level from 2 on whose square reaches all cells. -/
structure Least (zs : CellL) (lev : Nat) : Prop where
  lo : 2 ≤ lev
  hi : lev ≤ 41
  all : Within ((2 ^ (lev - 1) : Nat) : Int) zs
  least : ∀ k, 2 ≤ k → k < lev → ¬ Within ((2 ^ (k - 1) : Nat) : Int) zs
theorem tidy_within {zs : CellL} (h : (tidyF zs).2 = 0) : Within 1099511627776 (tidyF zs).1 := by
  unfold tidyF at h ⊢
  split at h
  · simp at h
  · split at h
    · simp at h
    · next h1 h2 =>
      rw [if_neg h1, if_neg h2]
      intro z hz
      simp only at hz
      rw [mem_sortF] at hz
      have h3 : farC z = false := by
        cases hf : farC z with
        | false => rfl
        | true => exact absurd (List.any_eq_true.2 ⟨z, hz, hf⟩) h2
      simp [farC, farF] at h3
      omega
def MadeRoot (U : Th → Prop) (w : World) (F : Nat → Prop) (b t : Nat) (S : ArS) (s : CellL) (e : Ending) (w' : World) : Prop :=
  ∃ lev, Least s lev ∧ Gets U w F b t S (costB lev (-((2 ^ (lev - 1) : Nat) : Int)) (-((2 ^ (lev - 1) : Nat) : Int)) s) lev (buildT lev (-((2 ^ (lev - 1) : Nat) : Int)) (-((2 ^ (lev - 1) : Nat) : Int)) s) e w'
theorem from_bad (b t : Nat) (zs : CellL) (a : Option Addr) (c : Nat) (w : World) (hs : Sl w 2 16 a zs.length c (zs.flatMap encCell)) (hbad : (tidyF zs).2 ≠ 0) :
    Calls Try.prog 12 #[.pointer (some ⟨b, 0, none⟩), .int .i64 t, .slice a zs.length c] w fun e w' => e = .returned (.tuple #[.int .i64 0, .int .i64 (tidyF zs).2]) ∧ Below w.heap.size w w' := by
  have HT := Lib.hid (tidy_any zs a c w hs)
  obtain ⟨n, hn⟩ : ∃ n, n = zs.length := ⟨_, rfl⟩
  unfold Tidied at HT
  obtain ⟨er, her⟩ : ∃ er, er = (tidyF zs).2 := ⟨_, rfl⟩
  rw [← her] at HT hbad
  rw [← hn] at HT
  rw [← her, ← hn]
  have g1 : (er == 0) = false := by simpa using hbad
  have g2 : (er != 0) = true := by simpa using hbad
  clear hs her hn
  go_enter Try.func12, Try.ntmps12
  go_wp2_with fail
  refine HT.out.mono ?_
  rintro e w1 ⟨v, rfl, h1, h2⟩
  have H1 := Lib.hid h1
  clear h1 h2
  go_wp2_with fail
  go_ret2
  exact ⟨rfl, H1.out⟩
theorem pow_le_of {a c : Nat} (h : a ≤ c) : 2 ^ a ≤ 2 ^ c := Nat.pow_le_pow_right (by omega) h
/-- From the level on: the hand, build, done. -/
theorem from_rest {U : Th → Prop} {b t : Nat} {S : ArS} {F : Nat → Prop} {s : CellL} {lev : Nat} {w wx : World} {a : Option Addr} {c : Nat} (hw : Below w.heap.size w wx) (h : IsAr b S w F) (wf : Wf S.L) (ht : t < 64) (hs : Sl wx 2 16 a s.length c (s.flatMap encCell)) (hz : Within 1099511627776 s) (hlen : s.length ≤ 4096) (hl : lev ≤ 41) (h2 : 2 ≤ lev) (hU : ∀ T', Sub T' (buildT lev (-((2 ^ (lev - 1) : Nat) : Int)) (-((2 ^ (lev - 1) : Nat) : Int)) s) → U (.sq T')) :
    ∀ H : Nat, H = 2 ^ (lev - 1) → Calls Try.prog 27 #[.pointer (some ⟨wx.heap.size, 0, none⟩), .slice a s.length c, .int .i64 (-(H : Int)), .int .i64 (-(H : Int)), .int .i64 lev] (wx.alloc (.cells #[.pointer (some ⟨b, 0, none⟩), .int .i64 t, .int .i64 0] 51 (0, 0)))
      (HMut (wx.alloc (.cells #[.pointer (some ⟨b, 0, none⟩), .int .i64 t, .int .i64 0] 51 (0, 0))) F wx.heap.size b t 51 none fun S' bad' v => Made U t S 0 (costB lev (-(H : Int)) (-(H : Int)) s) lev (buildT lev (-(H : Int)) (-(H : Int)) s) S' bad' v) := by
  intro H hH
  obtain ⟨hh, hn, hX⟩ := hand_new (t := t) (h.below hw)
  have hp : 2 ^ lev = 2 * H := by
    rw [hH, show lev = (lev - 1) + 1 by omega, Nat.pow_succ]; simp; omega
  have hp2 : (2 : Int) ^ lev = 2 * (H : Int) := by
    rw [show (2 : Int) ^ lev = ((2 ^ lev : Nat) : Int) by rw [Int.natCast_pow]; rfl, hp]; omega
  have hH40 : H ≤ 1099511627776 := by rw [hH]; exact Nat.le_trans (pow_le_of (show lev - 1 ≤ 40 by omega)) (by decide)
  exact build_any lev (by omega) U _ b t 0 _ none S F s (-(H : Int)) (-(H : Int)) a c _ hX wf hh hn ht (by rw [hH]; exact hU) (hs.below (by omega) ((Below.refl _ _).alloc (Nat.le_refl _) _)) (fun z hz' => by have := hz z hz'; unfold I64; omega) (by omega) (by rw [hp2]; omega) (by omega) (by rw [hp2]; omega) hlen
/-- build's and done's part of From, as the walk meets it. -/
theorem Gets.of_done {U : Th → Prop} {w wx w1 w2 : World} {F F1 : Nat → Prop} {b t k n : Nat} {S S1 : ArS} {b1 r : Int} {T : Tree} (hw : Below w.heap.size w wx) (_hlt : ∀ i, F i → i < w.heap.size)
    (hs : HState (wx.alloc (.cells #[.pointer (some ⟨b, 0, none⟩), .int .i64 t, .int .i64 0] 51 (0, 0))) F wx.heap.size b t 51 none S1 b1 F1 w1) (h2 : Below w1.heap.size w1 w2) (hr : I64 r) (hres : Res U t S S1 0 b1 k) (hd : b1 = 0 → Den S1.L t n T r) :
    Gets U w F b t S k n T (.returned (.tuple #[.int .i64 (if b1 = 0 then r else 0), .int .i64 b1])) w2 := by
  obtain ⟨c1, c2, c3⟩ := (hs.below h2).close (w := wx) ((Below.refl _ _).alloc (Nat.le_refl _) _)
  refine ⟨_, b1, S1, F1, rfl, ?_, hres, fun e => by rw [if_pos e]; exact hd e, fun e => by rw [if_neg e], c1, fun i hi => (c2 i hi).imp id (fun h => Nat.le_trans hw.size h), (Keeps.of_below hw).trans c3 fun i _ h => h⟩
  split
  · exact hr
  · unfold I64; omega
set_option maxHeartbeats 4000000 in
set_option maxRecDepth 100000 in
theorem from_ok {U : Th → Prop} (b t : Nat) (S : ArS) (F : Nat → Prop) (zs : CellL) (a : Option Addr) (c : Nat) (w : World) (h : IsAr b S w F) (wf : Wf S.L) (ht : t < 64) (hs : Sl w 2 16 a zs.length c (zs.flatMap encCell)) (hok : (tidyF zs).2 = 0) (hU : ∀ lev, Least (tidyF zs).1 lev → ∀ T', Sub T' (buildT lev (-((2 ^ (lev - 1) : Nat) : Int)) (-((2 ^ (lev - 1) : Nat) : Int)) (tidyF zs).1) → U (.sq T')) :
    Calls Try.prog 12 #[.pointer (some ⟨b, 0, none⟩), .int .i64 t, .slice a zs.length c] w (MadeRoot U w F b t S (tidyF zs).1) := by
  have HT := Lib.hid (tidy_any zs a c w hs)
  have hnear := tidy_within hok
  have hlen4 := tidyF_length zs
  unfold Tidied at HT
  rw [hok] at HT
  obtain ⟨s, hsE⟩ : ∃ s, s = (tidyF zs).1 := ⟨_, rfl⟩
  rw [← hsE] at HT hnear hlen4 hU ⊢
  have HU := Lib.hid hU
  clear hU
  obtain ⟨n, hn⟩ : ∃ n, n = zs.length := ⟨_, rfl⟩
  rw [← hn] at HT ⊢
  have HI := Lib.hid h
  have HWF := Lib.hid wf
  have HNR := Lib.hid hnear
  have HL4 := Lib.hid hlen4
  have hFlt := Lib.hid h.lt
  clear h wf hs hn hsE hok hnear hlen4
  go_enter Try.func12, Try.ntmps12
  go_wp2_with fail
  refine HT.out.mono ?_
  rintro e w1 ⟨v, rfl, h1, hT1⟩
  obtain ⟨a1, c1, rfl, hc1, hc2⟩ := hT1.form
  have hsl : Sl w1 2 16 a1 s.length c1 (s.flatMap encCell) := hT1.sl (by have := HL4.out; omega)
  have HBD := Lib.hid (bounds_any s a1 c1 w1 hsl)
  unfold Boxed at HBD
  have H1 := Lib.hid h1
  have HSL := Lib.hid hsl
  obtain ⟨sn, hsn⟩ : ∃ sn, sn = s.length := ⟨_, rfl⟩
  rw [← hsn] at HBD
  have HSN := Lib.hid hsn
  rw [← hsn]
  clear h1 hT1 hc1 hc2 hsl hsn
  go_wp2_with fail
  refine HBD.out.mono ?_
  rintro e w2 ⟨rfl, h2⟩
  obtain ⟨B, hB⟩ : ∃ B, B = boxF s := ⟨_, rfl⟩
  rw [← hB]
  have HB := Lib.hid hB
  clear hB
  obtain ⟨x0, y0, x1, y1⟩ := B
  unfold encBox
  simp only
  have H2 := Lib.hid (H1.out.trans (h2.mono H1.out.size))
  have HSL2 := Lib.hid (HSL.out.below (by omega) h2)
  obtain ⟨X, hXe⟩ : ∃ X, X = w2.alloc (.cells #[.int .i64 x0, .int .i64 y0, .int .i64 x1, .int .i64 y1] 66 (0, 0)) := ⟨_, rfl⟩
  have hbX : Below w2.heap.size w2 X := by rw [hXe]; exact (Below.refl _ _).alloc (Nat.le_refl _) _
  have hbx0 : X.heap[w2.heap.size]? = some (.cells #[.int .i64 x0, .int .i64 y0, .int .i64 x1, .int .i64 y1] 66 (0, 0)) := by rw [hXe]; exact blk_last w2 _ rfl
  have H3 := Lib.hid (H2.out.trans (hbX.mono H2.out.size))
  have HSL3 := Lib.hid (HSL2.out.below (by omega) hbX)
  have HXE := Lib.hid hXe
  have HBX0 := Lib.hid hbx0
  clear h2 hXe hbX hbx0
  go_upto_region 6 with fail
  rw [← HXE.out]
  by_cases hs0 : sn = 0
  · subst hs0
    have hnil : s = [] := List.eq_nil_of_length_eq_zero HSN.out.symm
    have t0 : decide (0 < 0) = false := rfl
    obtain ⟨lev, hlev⟩ : ∃ lev : Nat, lev = 2 := ⟨_, rfl⟩
    have hLI : (lev : Int) = 2 := by omega
    obtain ⟨H, hHE⟩ : ∃ H : Nat, H = 2 ^ (lev - 1) := ⟨_, rfl⟩
    have HLS := Lib.hid (show Least s lev by rw [hnil, hlev]; exact ⟨Nat.le_refl _, by omega, fun z hz => (by cases hz), fun k h2 h3 => by omega⟩)
    have HBR := from_rest (U := U) H3.out HI.out HWF.out ht HSL3.out HNR.out HL4.out (lev := lev) (by omega) (by omega) (HU.out lev HLS.out)
    have H3X := Lib.hid H3.out
    have hl41 : lev ≤ 41 := by omega
    have hl2 : 2 ≤ lev := by omega
    clear hnil hlev
    have HHF := Lib.hid (show ∀ W : World, Calls Try.prog 22 #[.int .i64 2] W fun e w' => e = .returned (.int .i64 (H : Int)) ∧ w' = W from fun W => by rw [← hLI, hHE]; exact half_any lev (by omega) (by omega) W)
    have HBL := Lib.hid (show Calls Try.prog 27 #[.pointer (some ⟨X.heap.size, 0, none⟩), .slice a1 0 c1, .int .i64 (-(H : Int)), .int .i64 (-(H : Int)), .int .i64 2] (X.alloc (.cells #[.pointer (some ⟨b, 0, none⟩), .int .i64 t, .int .i64 0] 51 (0, 0)))
      (HMut (X.alloc (.cells #[.pointer (some ⟨b, 0, none⟩), .int .i64 t, .int .i64 0] 51 (0, 0))) F X.heap.size b t 51 none fun S' bad' v => Made U t S 0 (costB lev (-(H : Int)) (-(H : Int)) s) lev (buildT lev (-(H : Int)) (-(H : Int)) s) S' bad' v) from by have hq := HBR H hHE; rw [← HSN.out] at hq; rw [← hLI]; exact hq)
    have HHE := Lib.hid hHE
    have hHb : (H : Int) ≤ 1099511627776 := by
      have : 2 ^ (lev - 1) ≤ 2 ^ 40 := pow_le_of (by omega)
      omega
    clear HBR hHE hLI
    go_wp2_with fail
    with_reducible refine (HHF.out _).mono ?_
    rintro e w4 ⟨rfl, rfl⟩
    go_wp2_with fail
    with_reducible refine (HHF.out _).mono ?_
    rintro e w5 ⟨rfl, rfl⟩
    go_wp2_with fail
    with_reducible refine HBL.out.mono ?_
    rintro e w6 ⟨S1, b1, v, F1, rfl, ⟨r, rfl, hr, hres, hden⟩, g1', g2', g3', g4'⟩
    have HDN := Lib.hid (done_any X.heap.size b t b1 51 none r w6 g2')
    have HG := Lib.hid (fun w7 (h7 : Below w6.heap.size w6 w7) => Gets.of_done H3X.out hFlt.out ⟨g1', g2', g3', g4'⟩ h7 hr hres hden)
    clear g1' g2' g3' g4' hr hres hden
    go_wp2_with fail
    with_reducible refine HDN.out.mono ?_
    rintro e w7 ⟨rfl, h7⟩
    have hg7 := HG.out w7 h7
    obtain ⟨r2, hr2⟩ : ∃ r2, r2 = if b1 = 0 then r else 0 := ⟨_, rfl⟩
    rw [← hr2] at hg7
    rw [← hr2]
    have HG7 := Lib.hid hg7
    clear h7 hg7 hr2
    go_wp2_with fail
    go_ret2
    refine ⟨lev, HLS.out, ?_⟩
    rw [← HHE.out]
    exact HG7.out
  · have t0 : decide (0 < sn) = true := decide_eq_true (by omega)
    have hnil : s ≠ [] := fun e => hs0 (by rw [HSN.out, e]; rfl)
    have HIN := Lib.hid (fun k => (by have h := boxIn_iff (k := k) hnil; rw [← HB.out] at h; exact h : BoxIn k ⟨x0, y0, x1, y1⟩ ↔ Within k s))
    have HW := Lib.hid HNR.out
    have hb40 : BoxIn 1099511627776 ⟨x0, y0, x1, y1⟩ := (HIN.out _).2 HNR.out
    have q0 : -1099511627776 ≤ x0 := hb40.1
    have q1 : -1099511627776 ≤ y0 := hb40.2.1
    have q2 : x1 < 1099511627776 := hb40.2.2.1
    have q3 : y1 < 1099511627776 := hb40.2.2.2
    have q4 : x0 < 9223372036854775807 := by
      obtain ⟨z, hz⟩ := List.exists_mem_of_ne_nil s hnil
      have h1 := HNR.out z hz
      have h2 := (HIN.out (-x0)).1
      by_cases hc : x0 < 9223372036854775807
      · exact hc
      · exfalso
        have hx : BoxIn (1099511627776) ⟨x0, y0, x1, y1⟩ := hb40
        have h3 := box_lo (zs := s) hnil
        rw [← HB.out] at h3
        have := (h3 z hz).1
        simp only at this
        omega
    have q5 : y0 < 9223372036854775807 := by
      obtain ⟨z, hz⟩ := List.exists_mem_of_ne_nil s hnil
      have h1 := HNR.out z hz
      have h3 := box_lo (zs := s) hnil
      rw [← HB.out] at h3
      have := (h3 z hz).2
      simp only at this
      omega
    have H3B := Lib.hid H3.out
    clear hnil hb40
    rw [t0]
    go_wp2_with fail
    go_loopw [10] (fun iv ws => ∃ lev : Nat, iv = .int .i64 lev ∧ 2 ≤ lev ∧ lev ≤ 41 ∧ Aside (∀ k, 2 ≤ k → k < lev → ¬ Within ((2 ^ (k - 1) : Nat) : Int) s) ∧ Aside (Below X.heap.size X ws)) (fun iv _ => 41 - (intOf iv).toNat)
    case atStart => exact ⟨2, rfl, Nat.le_refl _, by omega, fun k h2 h3 => by omega, Below.refl _ _⟩
    case round =>
      obtain ⟨lev, rfl, hl2, hl41, HNO, HBW⟩ := hrel
      obtain ⟨H, hHE⟩ : ∃ H : Nat, H = 2 ^ (lev - 1) := ⟨_, rfl⟩
      have hbw : wr.heap[w2.heap.size]? = some (.cells #[.int .i64 x0, .int .i64 y0, .int .i64 x1, .int .i64 y1] 66 (0, 0)) := (HBW.out.block _ (lt_of_block HBX0.out)).trans HBX0.out
      have k0 : ∀ g : Grow wr, g.val.cell? ⟨w2.heap.size, 0, none⟩ = some (.int .i64 x0) := Grow.cells (Joins.cell_of_block hbw 0)
      have k1 : ∀ g : Grow wr, g.val.cell? ⟨w2.heap.size, 1, none⟩ = some (.int .i64 y0) := Grow.cells (Joins.cell_of_block hbw 1)
      have k2 : ∀ g : Grow wr, g.val.cell? ⟨w2.heap.size, 2, none⟩ = some (.int .i64 x1) := Grow.cells (Joins.cell_of_block hbw 2)
      have k3 : ∀ g : Grow wr, g.val.cell? ⟨w2.heap.size, 3, none⟩ = some (.int .i64 y1) := Grow.cells (Joins.cell_of_block hbw 3)
      have HHG := Lib.hid (fun W : World => (half_any lev (by omega) (by omega) W).mono fun e w' (hh : _ ∧ w' = W) => (⟨by rw [hh.1, hHE], by rw [hh.2]; exact Below.refl _ _⟩ : e = .returned (.int .i64 (H : Int)) ∧ Below W.heap.size W w'))
      have hH40 : (H : Int) ≤ 1099511627776 := by
        have : 2 ^ (lev - 1) ≤ 2 ^ 40 := pow_le_of (by omega)
        omega
      have hH41 : lev = 41 → (H : Int) = 1099511627776 := fun e => by rw [hHE, e]; rfl
      have HNEXT := Lib.hid (fun (hno : ¬ BoxIn (H : Int) ⟨x0, y0, x1, y1⟩) => (show lev + 1 ≤ 41 ∧ (∀ k, 2 ≤ k → k < lev + 1 → ¬ Within ((2 ^ (k - 1) : Nat) : Int) s) from by
        refine ⟨?_, fun k h2 h3 => ?_⟩
        · by_cases e : lev = 41
          · exfalso
            have := hH41 e
            exact hno ⟨by show -(H : Int) ≤ x0; omega, by show -(H : Int) ≤ y0; omega, by show x1 < (H : Int); omega, by show y1 < (H : Int); omega⟩
          · omega
        · by_cases e : k = lev
          · rw [e, ← hHE]; exact fun hw => hno ((HIN.out _).2 hw)
          · exact HNO.out k h2 (by omega)))
      have HLAST := Lib.hid (fun (hin : BoxIn (H : Int) ⟨x0, y0, x1, y1⟩) => (show Least s lev from ⟨hl2, hl41, by rw [← hHE]; exact (HIN.out _).1 hin, HNO.out⟩))
      have hHpos : 0 < H := by rw [hHE]; exact Nat.pow_pos (by omega)
      have HHE0 := Lib.hid hHE
      clear hbw hH41 hHE
      by_cases c0 : x0 < -(H : Int)
      · skip
        have m0 : decide (x0 < -(H : Int)) = true := decide_eq_true (by omega)
        have HN := Lib.hid (HNEXT.out (fun hh => by have a1 : -(H : Int) ≤ x0 := hh.1; omega))
        go_wp2_with fail
        refine wp_region_grow (by kernel_rfl) (by kernel_rfl) ?_
        repeat (go_big_quiet_step ((go_at_call 22; with_reducible exact grow_of (HHG.out _))))
        refine wpQuiet_nil ?_
        intro _ hw'
        obtain ⟨g, hg⟩ := hw'
        subst hg
        have HG1 := Lib.hid (HBW.out.trans (g.below.mono HBW.out.size))
        clear k0 k1 k2 k3
        go_wp2_with fail
        refine ⟨⟨lev + 1, by go_num, by omega, HN.out.1, HN.out.2, HG1.out⟩, by have := HN.out.1; simp [intOf]; omega⟩
      · by_cases c1' : y0 < -(H : Int)
        · skip
          have m0 : decide (x0 < -(H : Int)) = false := decide_eq_false (by omega)
          have m1 : decide (y0 < -(H : Int)) = true := decide_eq_true (by omega)
          have HN := Lib.hid (HNEXT.out (fun hh => by have a2 : -(H : Int) ≤ y0 := hh.2.1; omega))
          go_wp2_with fail
          refine wp_region_grow (by kernel_rfl) (by kernel_rfl) ?_
          repeat (go_big_quiet_step ((go_at_call 22; with_reducible exact grow_of (HHG.out _))))
          refine wpQuiet_nil ?_
          intro _ hw'
          obtain ⟨g, hg⟩ := hw'
          subst hg
          have HG1 := Lib.hid (HBW.out.trans (g.below.mono HBW.out.size))
          clear k0 k1 k2 k3
          go_wp2_with fail
          refine ⟨⟨lev + 1, by go_num, by omega, HN.out.1, HN.out.2, HG1.out⟩, by have := HN.out.1; simp [intOf]; omega⟩
        · by_cases c2 : (H : Int) ≤ x1
          · skip
            have m0 : decide (x0 < -(H : Int)) = false := decide_eq_false (by omega)
            have m1 : decide (y0 < -(H : Int)) = false := decide_eq_false (by omega)
            have m2 : decide (x1 ≥ (H : Int)) = true := decide_eq_true (by omega)
            have m2' : decide ((H : Int) ≤ x1) = true := decide_eq_true (by omega)
            have HN := Lib.hid (HNEXT.out (fun hh => by have a3 : x1 < (H : Int) := hh.2.2.1; omega))
            go_wp2_with fail
            refine wp_region_grow (by kernel_rfl) (by kernel_rfl) ?_
            repeat (go_big_quiet_step ((go_at_call 22; with_reducible exact grow_of (HHG.out _))))
            refine wpQuiet_nil ?_
            intro _ hw'
            obtain ⟨g, hg⟩ := hw'
            subst hg
            have HG1 := Lib.hid (HBW.out.trans (g.below.mono HBW.out.size))
            clear k0 k1 k2 k3
            go_wp2_with fail
            refine ⟨⟨lev + 1, by go_num, by omega, HN.out.1, HN.out.2, HG1.out⟩, by have := HN.out.1; simp [intOf]; omega⟩
          · by_cases c3 : (H : Int) ≤ y1
            · skip
              have m0 : decide (x0 < -(H : Int)) = false := decide_eq_false (by omega)
              have m1 : decide (y0 < -(H : Int)) = false := decide_eq_false (by omega)
              have m2 : decide (x1 ≥ (H : Int)) = false := decide_eq_false (by omega)
              have m2' : decide ((H : Int) ≤ x1) = false := decide_eq_false (by omega)
              have m3 : decide (y1 ≥ (H : Int)) = true := decide_eq_true (by omega)
              have m3' : decide ((H : Int) ≤ y1) = true := decide_eq_true (by omega)
              have HN := Lib.hid (HNEXT.out (fun hh => by have a4 : y1 < (H : Int) := hh.2.2.2; omega))
              go_wp2_with fail
              refine wp_region_grow (by kernel_rfl) (by kernel_rfl) ?_
              repeat (go_big_quiet_step ((go_at_call 22; with_reducible exact grow_of (HHG.out _))))
              refine wpQuiet_nil ?_
              intro _ hw'
              obtain ⟨g, hg⟩ := hw'
              subst hg
              have HG1 := Lib.hid (HBW.out.trans (g.below.mono HBW.out.size))
              clear k0 k1 k2 k3
              go_wp2_with fail
              refine ⟨⟨lev + 1, by go_num, by omega, HN.out.1, HN.out.2, HG1.out⟩, by have := HN.out.1; simp [intOf]; omega⟩
            · skip
              have m0 : decide (x0 < -(H : Int)) = false := decide_eq_false (by omega)
              have m1 : decide (y0 < -(H : Int)) = false := decide_eq_false (by omega)
              have m2 : decide (x1 ≥ (H : Int)) = false := decide_eq_false (by omega)
              have m2' : decide ((H : Int) ≤ x1) = false := decide_eq_false (by omega)
              have m3 : decide (y1 ≥ (H : Int)) = false := decide_eq_false (by omega)
              have m3' : decide ((H : Int) ≤ y1) = false := decide_eq_false (by omega)
              have HLS := Lib.hid (HLAST.out ⟨by show -(H : Int) ≤ x0; omega, by show -(H : Int) ≤ y0; omega, by show x1 < (H : Int); omega, by show y1 < (H : Int); omega⟩)
              go_wp2_with fail
              refine wp_region_grow (by kernel_rfl) (by kernel_rfl) ?_
              repeat (go_big_quiet_step ((go_at_call 22; with_reducible exact grow_of (HHG.out _))))
              refine wpQuiet_nil ?_
              intro _ hw'
              obtain ⟨g, hg⟩ := hw'
              subst hg
              have HG1 := Lib.hid (HBW.out.trans (g.below.mono HBW.out.size))
              have H3X := Lib.hid (H3.out.trans (HG1.out.mono H3.out.size))
              have HBR := from_rest (U := U) H3X.out HI.out HWF.out ht (HSL3.out.below (by omega) HG1.out) HNR.out HL4.out (lev := lev) (by omega) (by omega) (HU.out lev HLS.out)
              have hLI : (lev : Int) = (lev : Int) := rfl
              have hHE := HHE0.out
              obtain ⟨W, hW⟩ : ∃ W, W = g.val := ⟨_, rfl⟩
              rw [← hW] at H3X HBR ⊢
              clear k0 k1 k2 k3 hW
              have HHF := Lib.hid (show ∀ W : World, Calls Try.prog 22 #[.int .i64 (lev : Int)] W fun e w' => e = .returned (.int .i64 (H : Int)) ∧ w' = W from fun W => by rw [hHE]; exact half_any lev (by omega) (by omega) W)
              have HBL := Lib.hid (show Calls Try.prog 27 #[.pointer (some ⟨W.heap.size, 0, none⟩), .slice a1 sn c1, .int .i64 (-(H : Int)), .int .i64 (-(H : Int)), .int .i64 (lev : Int)] (W.alloc (.cells #[.pointer (some ⟨b, 0, none⟩), .int .i64 t, .int .i64 0] 51 (0, 0)))
                (HMut (W.alloc (.cells #[.pointer (some ⟨b, 0, none⟩), .int .i64 t, .int .i64 0] 51 (0, 0))) F W.heap.size b t 51 none fun S' bad' v => Made U t S 0 (costB lev (-(H : Int)) (-(H : Int)) s) lev (buildT lev (-(H : Int)) (-(H : Int)) s) S' bad' v) from by have hq := HBR H hHE; rw [← HSN.out] at hq; exact hq)
              have HHE := Lib.hid hHE
              have hHb : (H : Int) ≤ 1099511627776 := by
                have : 2 ^ (lev - 1) ≤ 2 ^ 40 := pow_le_of (by omega)
                omega
              clear HBR hHE hLI
              go_wp2_with fail
              with_reducible refine (HHF.out _).mono ?_
              rintro e w4 ⟨rfl, rfl⟩
              go_wp2_with fail
              with_reducible refine (HHF.out _).mono ?_
              rintro e w5 ⟨rfl, rfl⟩
              go_wp2_with fail
              with_reducible refine HBL.out.mono ?_
              rintro e w6 ⟨S1, b1, v, F1, rfl, ⟨r, rfl, hr, hres, hden⟩, g1', g2', g3', g4'⟩
              have HDN := Lib.hid (done_any W.heap.size b t b1 51 none r w6 g2')
              have HG := Lib.hid (fun w7 (h7 : Below w6.heap.size w6 w7) => Gets.of_done H3X.out hFlt.out ⟨g1', g2', g3', g4'⟩ h7 hr hres hden)
              clear g1' g2' g3' g4' hr hres hden
              go_wp2_with fail
              with_reducible refine HDN.out.mono ?_
              rintro e w7 ⟨rfl, h7⟩
              have hg7 := HG.out w7 h7
              obtain ⟨r2, hr2⟩ : ∃ r2, r2 = if b1 = 0 then r else 0 := ⟨_, rfl⟩
              rw [← hr2] at hg7
              rw [← hr2]
              have HG7 := Lib.hid hg7
              clear h7 hg7 hr2
              go_wp2_with fail
              go_ret2
              refine ⟨lev, HLS.out, ?_⟩
              rw [← HHE.out]
              exact HG7.out
end Go.Proofs.Ytabhpbkkjijfjaa
namespace Go.Proofs.Ytabhpbkkjijfjaa
set_option maxRecDepth 100000
open Go.RowKit

def intV (i : Int) : Value := .int .i64 i
theorem int_keyedV : KeyedBy Try.prog 3 intV I64 where
  law := Maps.int_keyed Try.underlying3
  inj := fun a b h => by simpa [intV] using h
  reads := fun x hx => ⟨_, Maps.keyOf_int_mk Try.underlying3 (WalkArith.wf_i64 (by unfold I64 at hx; omega))⟩
end Go.Proofs.Ytabhpbkkjijfjaa
namespace Go.Proofs.Ytabhpbkkjijfjaa
set_option maxRecDepth 100000
open Go.RowKit

theorem cap_sum {x B : Int} {z : Nat} (h : x = z) (hb : (z : Int) ≤ B) : min x B = z := by omega
def cnt : Tree → Nat
  | .leaf b => if b then 1 else 0
  | .node a b c d => cnt a + cnt b + cnt c + cnt d
def bigC : Nat := 1000000000000
/-- What is kept is right. -/
structure Memo (L : List (Option Ent)) (t : Nat) (f : Int → Option Value) : Prop where
  all : ∀ id v, f id = some v → ∃ n T, Den L t n T id ∧ v = .int .i64 (cnt T) ∧ cnt T ≤ bigC
  zero : f 0 = some (.int .i64 0)
  one : f 1 = some (.int .i64 1)
theorem Den.level {S : ArS} (ok : ArOk S) {t n m : Nat} {T U : Tree} {id : Int} (h : Den S.L t n T id) (k : Den S.L t m U id) : n = m ∧ T = U := by
  have e : n = m := by
    have := (h.lev ok).symm.trans (k.lev ok)
    omega
  subst e
  exact ⟨rfl, h.same k⟩
/-- The state of a count. -/
structure CSt (b t : Nat) (S : ArS) (F : Nat → Prop) (wb mb : Nat) (rest : Option Value) (c8 c9 c10 : Nat) (fn : Value) (nn : Nat) (f : Int → Option Value) (w : World) : Prop where
  ar : IsAr b S w F
  hand : HandAt wb b t 0 54 rest w
  map : MapOf intV I64 w mb nn f
  memo : Memo S.L t f
  m9 : w.cell? ⟨c9, 0, none⟩ = some (.map (some mb))
  m8 : w.cell? ⟨c8, 0, none⟩ = some (.pointer (some ⟨wb, 0, none⟩))
  m10 : w.cell? ⟨c10, 0, none⟩ = some fn
  d1 : ¬ F wb ∧ ¬ F mb
  d8 : c8 ≠ wb ∧ c8 ≠ mb
  d9 : c9 ≠ wb ∧ c9 ≠ mb
  d10 : c10 ≠ wb ∧ c10 ≠ mb
  dm : wb ≠ mb
section
variable {b t : Nat} {S : ArS} {F : Nat → Prop} {wb mb : Nat} {rest : Option Value} {c8 c9 c10 : Nat} {fn : Value} {nn : Nat} {f : Int → Option Value} {w w' : World}
theorem CSt.hands (h : CSt b t S F wb mb rest c8 c9 c10 fn nn f w) (hh : HandAt wb b t 0 54 rest w') (hk : Keeps (fun i => i = wb) w w') : CSt b t S F wb mb rest c8 c9 c10 fn nn f w' :=
  { h with
    ar := h.ar.keep hk (fun i hi e => h.d1.1 (by rw [← e]; exact hi))
    hand := hh
    map := h.map.keep (hk.block mb h.map.lt (fun e => h.dm e.symm))
    m9 := (hk.cell (p := ⟨c9, 0, none⟩) (World.block_lt_of_cell? w _ h.m9) h.d9.1).trans h.m9
    m8 := (hk.cell (p := ⟨c8, 0, none⟩) (World.block_lt_of_cell? w _ h.m8) h.d8.1).trans h.m8
    m10 := (hk.cell (p := ⟨c10, 0, none⟩) (World.block_lt_of_cell? w _ h.m10) h.d10.1).trans h.m10 }
theorem CSt.stored (h : CSt b t S F wb mb rest c8 c9 c10 fn nn f w) {id : Int} {n : Nat} {T : Tree} (hd : Den S.L t n T id) (hc : cnt T ≤ bigC) {nn' : Nat} (hm : MapOf intV I64 w' mb nn' (updM f id (.int .i64 (cnt T)))) (hk : Keeps (fun i => i = mb) w w') (h0 : id ≠ 0) (h1 : id ≠ 1) : CSt b t S F wb mb rest c8 c9 c10 fn nn' (updM f id (.int .i64 (cnt T))) w' :=
  { h with
    ar := h.ar.keep hk (fun i hi e => h.d1.2 (by rw [← e]; exact hi))
    hand := h.hand.keep (hk.block wb h.hand.lt h.dm)
    map := hm
    memo := ⟨fun i v hv => by
      by_cases e : i = id
      · rw [e, updM_same] at hv
        cases hv
        exact ⟨n, T, by rw [e]; exact hd, rfl, hc⟩
      · rw [updM_other f _ e] at hv
        exact h.memo.all i v hv, by rw [updM_other f _ (Ne.symm h0)]; exact h.memo.zero, by rw [updM_other f _ (Ne.symm h1)]; exact h.memo.one⟩
    m9 := (hk.cell (p := ⟨c9, 0, none⟩) (World.block_lt_of_cell? w _ h.m9) h.d9.2).trans h.m9
    m8 := (hk.cell (p := ⟨c8, 0, none⟩) (World.block_lt_of_cell? w _ h.m8) h.d8.2).trans h.m8
    m10 := (hk.cell (p := ⟨c10, 0, none⟩) (World.block_lt_of_cell? w _ h.m10) h.d10.2).trans h.m10 }
end
end Go.Proofs.Ytabhpbkkjijfjaa
