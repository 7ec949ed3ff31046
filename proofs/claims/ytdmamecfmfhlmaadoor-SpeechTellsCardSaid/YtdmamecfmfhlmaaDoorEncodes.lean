/-
  rle.Encode: the text of cells with a rule, or the error.
-/
import Derived.Test.YtdmamecfmfhlmaaDoorPieces
import Derived.Test.YtdmamecfmfhlmaaDoorTidyRef
import Derived.Test.YtdmamecfmfhlmaaDoorBoxes
import Derived.Deep.CutRange
import Derived.Deep.RegionHeld3
import Derived.Deep.CutBlock
import Derived.BigQuiet
namespace Go.Proofs.YtdmamecfmfhlmaaDoor
set_option maxRecDepth 100000
open Go.RowKit

/-- A list that lies in blocks below B. -/
def Rd (w : World) (B : Nat) (v : Value) (S : List (Int × Int)) : Prop := ∃ a c, v = .slice a S.length c ∧ Sl w 2 16 a S.length c (S.flatMap encCell) ∧ ∀ b o, a = some ⟨b, o, none⟩ → b < B
theorem Rd.of_tight {w : World} {base : Nat} {v : Value} {S : List (Int × Int)} (h : Tight base w v S) (hb : S.length * 16 ≤ 140737488351232) : Rd w w.heap.size v S := by
  obtain ⟨a, c, rfl, _, _⟩ := h.form
  refine ⟨a, c, rfl, h.sl hb, fun b o e => ?_⟩
  rcases h with ⟨h, _⟩ | ⟨g, cap, sp, hv, hh, _⟩
  · simp only [Value.slice.injEq] at h
    rw [h.1] at e; cases e
  · simp only [Value.slice.injEq, true_and] at hv
    rw [hv.1] at e
    simp only [Option.some.injEq, Addr.mk.injEq, and_true] at e
    rw [← e.1]; exact hh.lt
theorem Rd.up {w w' : World} {B B' : Nat} {v : Value} {S : List (Int × Int)} (h : Rd w B v S) (hB : B ≤ w.heap.size) (hb : Below w.heap.size w w') (hB' : B ≤ B') : Rd w' B' v S := by
  obtain ⟨a, c, e, hs, hl⟩ := h
  exact ⟨a, c, e, hs.below (by omega) hb, fun b o h => by have := hl b o h; omega⟩
theorem Rd.at_ {w w' : World} {B b o c n : Nat} {S : List (Int × Int)} (h : Rd w B (.slice (some ⟨b, o, none⟩) n c) S) (hb : Below B w w') {j : Nat} {d : Int × Int} (hd : S[j]? = some d) : w'.cell? ⟨b, o + j * 2, none⟩ = some (.int .i64 d.1) ∧ w'.cell? ⟨b, o + j * 2 + 1, none⟩ = some (.int .i64 d.2) := by
  obtain ⟨a', c', e, hs, hl⟩ := h
  simp only [Value.slice.injEq] at e
  obtain ⟨rfl, _, rfl⟩ := e
  have hj := (List.getElem?_eq_some_iff.1 hd).1
  obtain ⟨b', o', e, hr⟩ := hs.row (by omega)
  simp only [Option.some.injEq, Addr.mk.injEq, and_true] at e
  obtain ⟨rfl, rfl⟩ := e
  have hbB := hl _ _ rfl
  have h1 := hr _ _ (flat_nth hd).1
  have h2 := hr _ _ (flat_nth hd).2
  refine ⟨?_, ?_⟩
  · rw [World.cell?_of_block (hb.block b hbB)]; exact h1
  · rw [World.cell?_of_block (hb.block b hbB), show o + j * 2 + 1 = o + (j * 2 + 1) by omega]; exact h2
theorem Rd.drop {w : World} {B b o c n : Nat} {S : List (Int × Int)} (h : Rd w B (.slice (some ⟨b, o, none⟩) S.length c) S) (hn : n ≤ S.length) :
    Rd w B (.slice (if c = n then some ⟨b, o, none⟩ else some ⟨b, o + n * 2, none⟩) (S.length - n) (c - n)) (S.drop n) := by
  obtain ⟨a', c', e, hs, hl⟩ := h
  simp only [Value.slice.injEq, true_and] at e
  obtain ⟨rfl, rfl⟩ := e
  have hroom := hs.room
  have hfits := hs.fits
  have hwide := hs.wide
  have hbB := hl _ _ rfl
  have hlen : (S.drop n).length = S.length - n := List.length_drop ..
  by_cases hc : c = n
  · rw [if_pos hc]
    have h0 : S.drop n = [] := List.eq_nil_of_length_eq_zero (by omega)
    refine ⟨_, _, by rw [hlen], ?_, fun b' o' e => ?_⟩
    · rw [h0]
      exact ⟨rfl, by simp, by omega, (fun h => by cases h), by simp, fun hn => by simp at hn⟩
    · simp only [Option.some.injEq, Addr.mk.injEq, and_true] at e
      omega
  · rw [if_neg hc]
    refine ⟨_, _, by rw [hlen], ⟨?_, ?_, ?_, (fun h => by cases h), ?_, fun hn0 => ⟨b, o + n * 2, rfl, fun j u hu => ?_⟩⟩, fun b' o' e => ?_⟩
    · rw [flat_len]
    · omega
    · omega
    · omega
    · obtain ⟨b', o', e, hr⟩ := hs.row (by omega)
      simp only [Option.some.injEq, Addr.mk.injEq, and_true] at e
      obtain ⟨rfl, rfl⟩ := e
      have hfd := flat_drop S hn
      rw [hfd, List.getElem?_drop] at hu
      have := hr (n * 2 + j) u hu
      rwa [← Nat.add_assoc] at this
    · simp only [Option.some.injEq, Addr.mk.injEq, and_true] at e
      omega
def lenS (v : Value) : Nat := match v with
  | .slice _ n _ => n
  | _ => 0
theorem lay_tok {st : List UInt8 × Nat} {k : Nat} (c : UInt8) (hk : k < 9223372036854775808) (hc : st.2 ≤ 70) : (layF st (tok k c)).1.length ≤ st.1.length + 66 ∧ (layF st (tok k c)).2 ≤ 70 := by
  unfold tok
  split
  · exact ⟨by rw [layF_nil]; omega, hc⟩
  · rw [layF_one]
    have h1 := tokT_len c (show k < 18446744073709551616 by omega)
    have h2 := layP_len st (tokT k c)
    exact ⟨by omega, layP_col hc (by omega)⟩
theorem tidied_as {w w' : World} {zs : List (Int × Int)} {e : Ending} {r : List (Int × Int)} {er : Int} (hr : (r, er) = tidyF zs) (h : Tidied w zs e w') :
    ∃ a c, e = .returned (.tuple #[.slice a r.length c, .int .i64 er]) ∧ Below w.heap.size w w' ∧ Tight w.heap.size w' (.slice a r.length c) r := by
  obtain ⟨v, he, hb, ht⟩ := h
  rw [← hr] at he ht
  obtain ⟨a, c, rfl, _, _⟩ := ht.form
  exact ⟨a, c, he, hb, ht⟩
def Encoded (w : World) (zs : List (Int × Int)) (rb rl : Int) (e : Ending) (w' : World) : Prop :=
  e = .returned (.tuple #[.string (txt (encF zs rb rl).1), .int .i64 (encF zs rb rl).2]) ∧ Below w.heap.size w w'
theorem encF_err {zs r : List (Int × Int)} {er rb rl : Int} (h : (r, er) = tidyF zs) (he : er ≠ 0) : encF zs rb rl = ([], er) := by rw [encF, ← h, if_pos he]
theorem encF_bad {zs r : List (Int × Int)} {rb rl : Int} (h : (r, 0) = tidyF zs) (hg : goodF rb rl = false) : encF zs rb rl = ([], 3) := by rw [encF, ← h, if_neg (by simp), if_pos hg]
theorem encF_ok {zs r : List (Int × Int)} {rb rl : Int} (h : (r, 0) = tidyF zs) (hg : goodF rb rl = true) : encF zs rb rl = (bodyT r (textF rb rl), 0) := by rw [encF, ← h, if_neg (by simp), if_neg (by simp [hg])]
theorem textF_len (b l : Int) : (textF b l).length ≤ 30 := by
  have h1 := digF_le b
  have h2 := digF_le l
  simp [textF]; omega
theorem tidyF_rise {zs r : List (Int × Int)} (h : (r, 0) = tidyF zs) : Rising r := by
  unfold tidyF at h
  split at h
  · simp at h
  · split at h
    · simp at h
    · simp only [Prod.mk.injEq, and_true] at h
      rw [h]; exact rising_sortF zs
theorem side_near {s : List (Int × Int)} (hn : ∀ c ∈ s, Near c.1 ∧ Near c.2) (hr : Rising s) : wideN s < 4398046511104 ∧ highN s < 4398046511104 ∧ (s ≠ [] → (boxF s).x1 - (boxF s).x0 + 1 = (wideN s : Int) ∧ (boxF s).y1 - (boxF s).y0 + 1 = (highN s : Int)) := by
  obtain ⟨hw, h1, h2, h3⟩ := Way.start hn hr
  have e1 := hw.edge
  have e2 := hw.ny
  unfold Near at h1 h2 e1 e2
  by_cases h0 : s = []
  · simp [wideN, highN, h0]
  · have h4 := h3 h0
    rw [wideN, highN, if_neg h0, if_neg h0]
    exact ⟨by omega, by omega, fun _ => ⟨by omega, by omega⟩⟩
set_option maxHeartbeats 8000000 in
set_option maxRecDepth 100000 in
theorem encode_any (B0 : Nat) (zs : List (Int × Int)) (rb rl : Int) (a : Option Addr) (cap : Nat) (w : World) (hs : Sl w 2 16 a zs.length cap (zs.flatMap encCell)) (ht : Tab B0 w) (hB0 : B0 ≤ w.heap.size) :
    Calls Tryd.prog 11 #[.slice a zs.length cap, .agg #[.int .i64 rb, .int .i64 rl]] w (Encoded w zs rb rl) := by
  have hwide := hs.wide
  obtain ⟨⟨r, er⟩, hR⟩ : ∃ R, R = tidyF zs := ⟨_, rfl⟩
  have hrl : r.length ≤ 4096 := by have := tidyF_length zs; rw [← hR] at this; exact this
  have HR := Lib.hid hR
  have HT0 := Lib.hid ht
  clear hR ht
  go_enter Tryd.func11, Tryd.ntmps11
  go_wp2_with fail
  refine (tidy_any zs a cap _ (hs.below (by omega) ((Below.refl _ _).alloc (Nat.le_refl _) _))).mono ?_
  intro e w1 h1
  obtain ⟨a1, c1, rfl, hb1, ht1⟩ := tidied_as HR.out h1
  have HTI := Lib.hid ht1
  have hBw1 := ((Below.refl w.heap.size w).alloc (Nat.le_refl _) (.cells #[.int .i64 rb, .int .i64 rl] 33)).trans (hb1.mono (by simp))
  have k0 : w1.heap[w.heap.size]? = some (.cells #[.int .i64 rb, .int .i64 rl] 33 (0, 0)) := by
    rw [hb1.block _ (by simp)]; exact blk_last w _ rfl
  have d0 : w1.cell? ⟨w.heap.size, 0, none⟩ = some (.int .i64 rb) := Joins.cell_of_block k0 0
  have d1 : w1.cell? ⟨w.heap.size, 1, none⟩ = some (.int .i64 rl) := Joins.cell_of_block k0 1
  have hz1 := hBw1.size
  have HB1 := Lib.hid hBw1
  clear h1 ht1 hb1 k0 hBw1
  by_cases he : er = 0
  · subst he
    by_cases hg : goodF rb rl = true
    · have HO := Lib.hid (encF_ok HR.out hg)
      have hTx := text_yes rb rl w1 hg
      obtain ⟨t, hT⟩ : ∃ t, t = textF rb rl := ⟨_, rfl⟩
      have htl : t.length ≤ 30 := by rw [hT]; exact textF_len rb rl
      rw [← hT] at hTx HO
      obtain ⟨TX, hTX⟩ : ∃ TX, TX = txt t := ⟨_, rfl⟩
      have hTXs : TX.size ≤ 30 := by rw [hTX, txt_size]; exact htl
      have HTX := Lib.hid hTX
      rw [← hTX] at hTx
      have HTxt := Lib.hid hTx
      have HNR := Lib.hid (near_of HR.out)
      have HRI := Lib.hid (tidyF_rise HR.out)
      clear hTx hT hTX hg
      go_wp2_with fail
      refine HTxt.out.mono ?_
      rintro e w2 ⟨rfl, hb2⟩
      have hz2 := hb2.size
      have HS2 := Lib.hid ((HTI.out.below hb2).sl (by omega))
      go_wp2_with fail
      refine (bounds_any r a1 c1 w2 HS2.out).mono ?_
      rintro e w3 ⟨rfl, hb3⟩
      obtain ⟨⟨x0, y0, x1, y1⟩, hBX⟩ : ∃ B, B = boxF r := ⟨_, rfl⟩
      rw [← hBX]
      have HBX := Lib.hid hBX
      have hz3 := hb3.size
      simp only [encBox]
      clear hBX d0 d1
      go_upto_if 40 with fail
      obtain ⟨X, hX⟩ : ∃ X, X = (w3.alloc (.cells #[.int .i64 x0, .int .i64 y0, .int .i64 x1, .int .i64 y1] 41)).alloc (.cells #[.pointer none, .slice none 0 0, .int .i64 0] 70) := ⟨_, rfl⟩
      obtain ⟨bw, hbw⟩ : ∃ bw, bw = w3.heap.size + 1 := ⟨_, rfl⟩
      rw [← hX, ← hbw]
      have hXs : X.heap.size = bw + 1 := by rw [hX, hbw]; simp
      have hW0 : IsWr bw bw [] 0 X := by
        have h := IsWr.fresh (w := w3.alloc (.cells #[.int .i64 x0, .int .i64 y0, .int .i64 x1, .int .i64 y1] 41))
        rw [← hX, show (w3.alloc (.cells #[.int .i64 x0, .int .i64 y0, .int .i64 x1, .int .i64 y1] 41)).heap.size = bw by rw [hbw]; simp] at h
        exact h
      have hbX : Below w3.heap.size w3 X := by rw [hX]; exact ((Below.refl _ _).alloc (Nat.le_refl _) _).alloc (by simp) _
      have hbox : X.heap[w3.heap.size]? = some (.cells #[.int .i64 x0, .int .i64 y0, .int .i64 x1, .int .i64 y1] 41 (0, 0)) := by rw [hX]; exact blk_alloc (blk_last w3 _ rfl) _
      have hbk : ∀ W, Below bw X W → W.heap[w3.heap.size]? = some (.cells #[.int .i64 x0, .int .i64 y0, .int .i64 x1, .int .i64 y1] 41 (0, 0)) := fun W h => (h.block _ (by omega)).trans hbox
      have HBK := Lib.hid hbk
      have hw3 : Below w.heap.size w w3 := HB1.out.trans ((hb2.trans (hb3.mono hb2.size)).mono hz1)
      have hwX : Below w.heap.size w X := hw3.trans (hbX.mono hw3.size)
      have HWX := Lib.hid hwX
      have hRd : Rd X bw (.slice a1 r.length c1) r := (Rd.of_tight ((HTI.out.below hb2).below hb3) (by omega)).up (Nat.le_refl _) hbX (by omega)
      have htab : ∀ W, Below bw X W → Tab B0 W := fun W h => (HT0.out.up hwX hB0).up h (by have := hwX.size; have := hw3.size; omega)
      have HTAB := Lib.hid htab
      have hBb : B0 ≤ bw := by have := hw3.size; omega
      have hwb : w.heap.size ≤ bw := by have := hw3.size; omega
      have hpc : ∀ (T : List UInt8) (col k : Nat) (c : UInt8) (cI : Int) (W : World), (∀ w, (convert 5 9 (.int .u8 cI)).run Tryd.prog w = .ok (.string (txt [c])) w) → Below bw X W → Aside (IsWr bw bw T col W) → k < 9223372036854775808 → col ≤ 70 → T.length ≤ 10000000 →
          Calls Tryd.prog 29 #[.pointer (some ⟨bw, 0, none⟩), .int .i64 k, .int .u8 cI] W fun e w' => e = .returned (.tuple #[]) ∧ Below bw X w' ∧ Aside (IsWr bw bw (layF (T, col) (tok k c)).1 ((layF (T, col) (tok k c)).2 : Nat) w') := fun T col k c cI W h1 h2 h3 h4 h5 h6 =>
        (piece_any B0 bw bw T col k c cI W h3 h4 h1 h5 h6 (by have := h2.size; omega) (HTAB.out W h2) (by have := h2.size; omega)).mono fun e w' ⟨g1, g2, g3⟩ => ⟨g1, h2.trans g3, g2⟩
      have HPC := Lib.hid hpc
      have hitoa : ∀ (n : Nat) (W : World), n < 4398046511104 → Below bw X W ∧ Aside (IsWr bw bw [] 0 W) → Calls Tryd.prog 21 #[.int .i64 n] W fun e w' => e = .returned (.string (txt (Lib.decDigits n))) ∧ Below bw X w' ∧ Aside (IsWr bw bw [] 0 w') := fun n W hn ⟨h1, h2⟩ =>
        (itoa_any B0 n W (by omega) (HTAB.out W h1)).mono fun e w' ⟨g1, g2⟩ => ⟨g1, h1.trans (g2.mono (by have := h1.size; omega)), h2.out.below g2⟩
      have HIT := Lib.hid hitoa
      obtain ⟨hs1, hs2, hs3⟩ := side_near HNR.out HRI.out
      obtain ⟨wd, hwd⟩ : ∃ wd, wd = wideN r := ⟨_, rfl⟩
      obtain ⟨hi', hhi⟩ : ∃ hi, hi = highN r := ⟨_, rfl⟩
      rw [← hwd] at hs1 hs3
      rw [← hhi] at hs2 hs3
      rw [← HBX.out] at hs3
      simp only at hs3
      have HSD := Lib.hid hs3
      have HWH : Aside (wd = wideN r ∧ hi' = highN r) := ⟨hwd, hhi⟩
      have hWayA := Way.start HNR.out HRI.out
      rw [← HBX.out] at hWayA
      simp only at hWayA
      obtain ⟨hWay, hn1, hn2, hn3⟩ := hWayA
      have HWAY := Lib.hid hWay
      obtain ⟨qx0, qx1⟩ := hWay.edge
      obtain ⟨qy0, qy1⟩ := hWay.ny
      obtain ⟨qa0, qa1⟩ := hn1
      obtain ⟨qb0, qb1⟩ := hn2
      have HW0 : Aside (IsWr bw bw [] 0 X) := hW0
      obtain ⟨n, hN⟩ : ∃ n, n = r.length := ⟨_, rfl⟩
      rw [← hN] at hRd hrl ⊢
      have HRD0 := Lib.hid hRd
      have HN := Lib.hid hN
      clear hX hbw hW0 hbX hbox hbk hw3 hwX hRd htab hpc hitoa hs3 hwd hhi hWay hn3 hb2 hb3 hN
      go_cut [12, 13] from 41 to 52 (fun s12 s13 wx => s12 = .int .i64 wd ∧ s13 = .int .i64 hi' ∧ Below bw X wx ∧ Aside (IsWr bw bw [] 0 wx))
      case first =>
        by_cases hn0 : n = 0
        · have hd : decide (0 < n) = false := decide_eq_false (by omega)
          have hr0 : r = [] := List.eq_nil_of_length_eq_zero (by rw [← HN.out]; exact hn0)
          have hw0 : wd = 0 := by rw [HWH.out.1, hr0]; rfl
          have hh0 : hi' = 0 := by rw [HWH.out.2, hr0]; rfl
          have HZ : Aside (wd = 0 ∧ hi' = 0) := ⟨hw0, hh0⟩
          clear hr0 hw0 hh0
          go_wp2_with fail
          go_meet
          exact ⟨by rw [HZ.out.1]; rfl, by rw [HZ.out.2]; rfl, Below.refl _ _, HW0⟩
        · have hd : decide (0 < n) = true := decide_eq_true (by omega)
          obtain ⟨hq1, hq2⟩ := HSD.out (by intro h; rw [h] at HN; exact hn0 HN.out)
          have bx := HBK.out _ ((Below.refl bw X).drew)
          have g0 := Joins.cell_of_block bx 0
          have g1 := Joins.cell_of_block bx 1
          have g2 := Joins.cell_of_block bx 2
          have g3 := Joins.cell_of_block bx 3
          simp at g0 g1 g2 g3
          have HQ : Aside (x1 - x0 + 1 = (wd : Int) ∧ y1 - y0 + 1 = (hi' : Int)) := ⟨hq1, hq2⟩
          clear bx hq1 hq2
          go_wp2_with fail
          go_quiet (fail)
          go_wp2_with fail
          go_meet
          exact ⟨by rw [HQ.out.1], by rw [HQ.out.2], (Below.refl _ _).trans (Joins.below_draws _ _ _), HW0.out.below (Joins.below_draws _ _ _)⟩
      case rest =>
      obtain ⟨rfl, rfl, hcb, hcw⟩ := hcut
      have HI1 := Lib.hid (fun W h => HIT.out wd W hs1 h)
      have HI2 := Lib.hid (fun W h => HIT.out hi' W hs2 h)
      have hl1 := dec_len (show wd < 18446744073709551616 by omega)
      have hl2 := dec_len (show hi' < 18446744073709551616 by omega)
      have hH : (⟨#[120, 32, 61, 32]⟩ : ByteArray) ++ txt (Lib.decDigits wd) ++ (⟨#[44, 32, 121, 32, 61, 32]⟩ : ByteArray) ++ txt (Lib.decDigits hi') ++ (⟨#[44, 32, 114, 117, 108, 101, 32, 61, 32]⟩ : ByteArray) ++ TX ++ (⟨#[10]⟩ : ByteArray) = txt (headT wd hi' t) := by
        show txt [120, 32, 61, 32] ++ txt (Lib.decDigits wd) ++ txt [44, 32, 121, 32, 61, 32] ++ txt (Lib.decDigits hi') ++ txt [44, 32, 114, 117, 108, 101, 32, 61, 32] ++ TX ++ txt [10] = _
        rw [HTX.out, txt_add, txt_add, txt_add, txt_add, txt_add, txt_add]; rfl
      have hHl : (headT wd hi' t).length ≤ 200 := by simp [headT]; omega
      obtain ⟨H, hHe⟩ : ∃ H, H = headT wd hi' t := ⟨_, rfl⟩
      rw [← hHe] at hH hHl
      obtain ⟨Y1, hY1⟩ : ∃ Y, Y = txt (Lib.decDigits wd) := ⟨_, rfl⟩
      obtain ⟨Y2, hY2⟩ : ∃ Y, Y = txt (Lib.decDigits hi') := ⟨_, rfl⟩
      have hY1s : Y1.size ≤ 64 := by rw [hY1, txt_size]; exact hl1
      have hY2s : Y2.size ≤ 64 := by rw [hY2, txt_size]; exact hl2
      rw [← hY1] at HI1 hH
      rw [← hY2] at HI2 hH
      have m1 : ((⟨#[120, 32, 61, 32]⟩ : ByteArray) ++ Y1).size ≤ 70 := by rw [ByteArray.size_append]; have : (⟨#[120, 32, 61, 32]⟩ : ByteArray).size = 4 := rfl; omega
      have m2 : ((⟨#[120, 32, 61, 32]⟩ : ByteArray) ++ Y1 ++ (⟨#[44, 32, 121, 32, 61, 32]⟩ : ByteArray)).size ≤ 80 := by rw [ByteArray.size_append]; have : (⟨#[44, 32, 121, 32, 61, 32]⟩ : ByteArray).size = 6 := rfl; omega
      have m3 : ((⟨#[120, 32, 61, 32]⟩ : ByteArray) ++ Y1 ++ (⟨#[44, 32, 121, 32, 61, 32]⟩ : ByteArray) ++ Y2).size ≤ 150 := by rw [ByteArray.size_append]; omega
      have m4 : ((⟨#[120, 32, 61, 32]⟩ : ByteArray) ++ Y1 ++ (⟨#[44, 32, 121, 32, 61, 32]⟩ : ByteArray) ++ Y2 ++ (⟨#[44, 32, 114, 117, 108, 101, 32, 61, 32]⟩ : ByteArray)).size ≤ 160 := by rw [ByteArray.size_append]; have : (⟨#[44, 32, 114, 117, 108, 101, 32, 61, 32]⟩ : ByteArray).size = 9 := rfl; omega
      have m5 : ((⟨#[120, 32, 61, 32]⟩ : ByteArray) ++ Y1 ++ (⟨#[44, 32, 121, 32, 61, 32]⟩ : ByteArray) ++ Y2 ++ (⟨#[44, 32, 114, 117, 108, 101, 32, 61, 32]⟩ : ByteArray) ++ TX).size ≤ 190 := by rw [ByteArray.size_append]; omega
      have n1 : ¬ (9223372036854775807 < 4 + Y1.size) := by omega
      have n2 : ¬ (9223372036854775807 < 4 + Y1.size + 6) := by omega
      have n3 : ¬ (9223372036854775807 < 4 + Y1.size + 6 + Y2.size) := by omega
      have n4 : ¬ (9223372036854775807 < 4 + Y1.size + 6 + Y2.size + 9) := by omega
      have n5 : ¬ (9223372036854775807 < 4 + Y1.size + 6 + Y2.size + 9 + TX.size) := by omega
      have n6 : ¬ (9223372036854775807 < 4 + Y1.size + 6 + Y2.size + 9 + TX.size + 1) := by omega
      have hws : ∀ W, Below bw X W ∧ Aside (IsWr bw bw [] 0 W) → Calls Tryd.prog 28 #[.pointer (some ⟨bw, 0, none⟩), .string ((⟨#[120, 32, 61, 32]⟩ : ByteArray) ++ Y1 ++ (⟨#[44, 32, 121, 32, 61, 32]⟩ : ByteArray) ++ Y2 ++ (⟨#[44, 32, 114, 117, 108, 101, 32, 61, 32]⟩ : ByteArray) ++ TX ++ (⟨#[10]⟩ : ByteArray))] W fun e w' => e = .returned (.tuple #[.int .i64 H.length, .nilIface]) ∧ Below bw X w' ∧ Aside (IsWr bw bw H 0 w') := fun W ⟨h1, h2⟩ => by
        rw [hH]
        exact (writeStringW bw bw [] H 0 W h2 (by simp; omega) (by have := h1.size; omega)).mono fun e w' ⟨g1, g2, g3⟩ => ⟨g1, h1.trans g3, g2⟩
      have HWS := Lib.hid hws
      have HHE := Lib.hid hHe
      obtain ⟨HL, hHL⟩ : ∃ HL, HL = H.length := ⟨_, rfl⟩
      have HHL := Lib.hid hHL
      rw [← hHL] at HWS hHl
      clear hH hHe hY1 hY2 hws hl1 hl2 hHL
      go_upto_region 12 with fail
      go_cut [] from 53 to 67 (fun wx => Below bw X wx ∧ Aside (IsWr bw bw H 0 wx))
      case first =>
        have h0 : Below bw X wc.drew ∧ Aside (IsWr bw bw [] 0 wc.drew) := ⟨hcb.drew, hcw.out.below (Below.refl _ _).drew⟩
        go_region_held3 (fun _ => True) (exact trivial) ((first | (go_at_call 21; first | (with_reducible refine (HI1.out _ (by assumption)).mono ?_; rintro e w6 ⟨rfl, h6⟩) | (with_reducible refine (HI2.out _ (by assumption)).mono ?_; rintro e w7 ⟨rfl, h7⟩)) | (go_at_call 28; refine (HWS.out _ (by assumption)).mono ?_; rintro e w8 ⟨rfl, h8⟩)))
        all_goals
          go_wp2_with fail
          go_meet
          exact h8
      case rest =>
      obtain ⟨hcb1, hcw1⟩ := hcut
      have bx := HBK.out _ hcb1.drew
      have g0 := Joins.cell_of_block bx 0
      have g1 := Joins.cell_of_block bx 1
      simp at g0 g1
      clear bx HI1 HI2 HIT HTxt n1 n2 n3 n4 n5 n6 m1 m2 m3 m4 m5 hY1s hY2s hTXs htl HWS HTX
      go_wp2_with fail
      go_quiet (fail)
      go_wp2_with fail
      go_loopw [6, 14, 15, 16] (fun v xv yv _ wr => ∃ (S : List (Int × Int)) (f : Nat) (x y : Int) (T : List UInt8) (col : Nat), xv = .int .i64 x ∧ yv = .int .i64 y ∧ Rd X bw v S ∧ S.length ≤ f ∧ f ≤ 4096 ∧ Aside (Way x0 x y S) ∧ Aside (layF (H, 0) (pcs x0 n x0 y0 r) = layF (T, col) (pcs x0 f x y S)) ∧ col ≤ 70 ∧ T.length + 200 * f ≤ 820200 ∧ Below bw X wr ∧ Aside (IsWr bw bw T col wr)) (fun v _ _ _ _ => lenS v)
      case atStart => exact ⟨r, n, x0, y0, H, 0, rfl, rfl, HRD0.out, by rw [HN.out]; exact Nat.le_refl _, hrl, HWAY.out, rfl, by omega, by rw [← HHL.out]; omega, hcb1.trans (Joins.below_draws _ _ _), hcw1.out.below (Joins.below_draws _ _ _)⟩
      case round =>
        obtain ⟨S, f, x, y, T, col, rfl, rfl, hRd, hSf, hf, HW, HE, hcol, hT, hB, HWr⟩ := hrel
        clear hcb1 hcw1 g0 g1
        obtain ⟨ad, cp, hv, hsl, hadl⟩ := id hRd
        subst hv
        obtain ⟨m, hm⟩ : ∃ m, m = S.length := ⟨_, rfl⟩
        have HM := Lib.hid hm
        have HRD := Lib.hid hRd
        have HSL := Lib.hid hsl
        rw [← hm] at hSf ⊢
        clear hRd hsl hadl hm
        by_cases hm0 : 0 < m
        · obtain ⟨b, o, rfl, _⟩ := HSL.out.row (by rw [← HM.out]; exact hm0)
          obtain ⟨c1, c2, r', hSe⟩ : ∃ c1 c2 r', S = (c1, c2) :: r' := by
            have := HM.out
            rcases S with _ | ⟨⟨c1, c2⟩, r'⟩
            · simp at this; omega
            · exact ⟨_, _, _, rfl⟩
          have HS := Lib.hid hSe
          have hd0 : S[0]? = some (c1, c2) := by rw [hSe]; rfl
          have hcl : ∀ W, Below bw X W → W.cell? ⟨b, o, none⟩ = some (.int .i64 c1) ∧ W.cell? ⟨b, o + 1, none⟩ = some (.int .i64 c2) := fun W h => by
            have := HRD.out.at_ h hd0
            rwa [Nat.zero_mul, Nat.add_zero] at this
          have HCL := Lib.hid hcl
          obtain ⟨⟨nc1, nc2⟩, nc3, nc4⟩ := HW.out.near _ (List.mem_of_getElem? hd0)
          obtain ⟨nx1, nx2⟩ := HW.out.nx
          obtain ⟨ny1, ny2⟩ := HW.out.ny
          have nl := HW.out.left _ (List.mem_of_getElem? hd0)
          obtain ⟨nh1, nh2⟩ := HW.out.head _ _ hSe
          simp only at nc1 nc2 nc3 nc4 nl nh1 nh2
          obtain ⟨f', rfl⟩ : ∃ f', f = f' + 1 := ⟨f - 1, by omega⟩
          obtain ⟨N, hN⟩ : ∃ N, N = runN (c1, c2) 0 S := ⟨_, rfl⟩
          have hNp : 0 < N ∧ N ≤ m := by rw [hN, HM.out, hSe]; exact runN_pos _ _
          obtain ⟨hN0, hNm⟩ := hNp
          have HR1 : Aside (runN (c1, c2) 1 (S.drop 1) = N) := by
            show _ = _
            rw [hN, hSe, runN, if_pos ⟨rfl, by simp⟩]; rfl
          have HW2 := Lib.hid (show Way x0 (c1 + (N : Nat)) c2 (S.drop N) by
            have h := HW.out
            have h2 := HM.out
            rw [hSe] at h h2
            have := h.next (by omega)
            rw [← hSe, ← hN] at this
            exact this)
          obtain ⟨x', hx'⟩ : ∃ x', x' = if y < c2 then x0 else x := ⟨_, rfl⟩
          obtain ⟨⟨T1, col1⟩, h1⟩ : ∃ p, p = layF (T, col) (tok (c2 - y).toNat 36) := ⟨_, rfl⟩
          obtain ⟨⟨T2, col2⟩, h2⟩ : ∃ p, p = layF (T1, col1) (tok (c1 - x').toNat 98) := ⟨_, rfl⟩
          obtain ⟨⟨T3, col3⟩, h3⟩ : ∃ p, p = layF (T2, col2) (tok N 111) := ⟨_, rfl⟩
          have HE2 : Aside (layF (H, 0) (pcs x0 n x0 y0 r) = layF (T3, col3) (pcs x0 f' (c1 + (N : Nat)) c2 (S.drop N))) := by
            show _ = _
            rw [HE.out, hSe, pcs, layF_append, layF_append, layF_append, ← hSe, ← hN, ← h1]
            show layF (layF (layF (T1, col1) (tok (c1 - (if y < c2 then x0 else x)).toNat 98)) _) _ = _
            rw [← hx', ← h2, ← h3]
          have hx1 : x' = x0 ∨ x' = x := by rw [hx']; split <;> simp
          have hx2 : x' ≤ c1 := by
            rw [hx']
            split
            · exact nl
            · exact nh2 (by omega)
          have hx3 : y < c2 → x' = x0 := fun h => by rw [hx', if_pos h]
          have hx4 : ¬ y < c2 → x' = x ∧ y = c2 := fun h => ⟨by rw [hx', if_neg h], by omega⟩
          have hx5 : -1099511627776 < x' ∧ x' < 1099511636000 := by rcases hx1 with h | h <;> rw [h] <;> omega
          obtain ⟨k1, hk1⟩ : ∃ k1, k1 = (c2 - y).toNat := ⟨_, rfl⟩
          obtain ⟨k2, hk2⟩ : ∃ k2, k2 = (c1 - x').toNat := ⟨_, rfl⟩
          rw [← hk1] at h1
          rw [← hk2] at h2
          have e1 := lay_tok (st := (T, col)) (k := k1) 36 (by omega) hcol
          rw [← h1] at e1
          simp only at e1
          have e2 := lay_tok (st := (T1, col1)) (k := k2) 98 (by omega) e1.2
          rw [← h2] at e2
          simp only at e2
          have e3 := lay_tok (st := (T2, col2)) (k := N) 111 (by omega) e2.2
          rw [← h3] at e3
          simp only at e3
          obtain ⟨e1a, e1b⟩ := e1
          obtain ⟨e2a, e2b⟩ := e2
          obtain ⟨e3a, e3b⟩ := e3
          have H10 : Aside (k1 = 0 → T1 = T ∧ col1 = col) := fun h => by
            have h' := h1
            rw [h, show tok 0 36 = [] from rfl, layF_nil] at h'
            exact ⟨(Prod.mk.inj h').1, (Prod.mk.inj h').2⟩
          have hk1I : c2 - y = (k1 : Int) := by omega
          have hk2I : c1 - x' = (k2 : Int) := by omega
          have HK1I := Lib.hid hk1I
          have HK2I := Lib.hid hk2I
          have HX3 := Lib.hid hx3
          have HX4 := Lib.hid hx4
          have hp1 : ∀ W, Below bw X W → Aside (IsWr bw bw T col W) → Calls Tryd.prog 29 #[.pointer (some ⟨bw, 0, none⟩), .int .i64 k1, .int .u8 36] W fun e w' => e = .returned (.tuple #[]) ∧ Below bw X w' ∧ Aside (IsWr bw bw T1 col1 w') := fun W h h' => by
            have := HPC.out T col k1 36 36 W conv36 h h' (by omega) hcol (by omega)
            rwa [← h1] at this
          have HP1 := Lib.hid hp1
          have hp2 : ∀ W, Below bw X W → Aside (IsWr bw bw T1 col1 W) → Calls Tryd.prog 29 #[.pointer (some ⟨bw, 0, none⟩), .int .i64 k2, .int .u8 98] W fun e w' => e = .returned (.tuple #[]) ∧ Below bw X w' ∧ Aside (IsWr bw bw T2 col2 w') := fun W h h' => by
            have := HPC.out T1 col1 k2 98 98 W conv98 h h' (by omega) e1b (by omega)
            rwa [← h2] at this
          have HP2 := Lib.hid hp2
          have hp3 : ∀ W, Below bw X W → Aside (IsWr bw bw T2 col2 W) → Calls Tryd.prog 29 #[.pointer (some ⟨bw, 0, none⟩), .int .i64 N, .int .u8 111] W fun e w' => e = .returned (.tuple #[]) ∧ Below bw X w' ∧ Aside (IsWr bw bw T3 col3 w') := fun W h h' => by
            have := HPC.out T2 col2 N 111 111 W conv111 h h' (by omega) e2b (by omega)
            rwa [← h3] at this
          have HP3 := Lib.hid hp3
          have hwr := hB.size
          have kk := hcl _ hB
          obtain ⟨kk1, kk2⟩ := kk
          clear hSe hd0 hcl hN hx' h1 h2 h3 hx1 hx3 hx4 hk1 hk2 hk1I hk2I hp1 hp2 hp3 nh2 HE HW
          go_upto_block 2 with fail
          go_cut [16] from 72 to 146 (fun s16 wx => s16 = .int .i64 N ∧ Below bw X wx ∧ Aside (IsWr bw bw T col wx))
          case first =>
            go_wp2_with fail
            go_loopw [16] (fun kv ws => ∃ k : Nat, kv = .int .i64 k ∧ 1 ≤ k ∧ k ≤ m ∧ Aside (runN (c1, c2) k (S.drop k) = N) ∧ Below bw X ws ∧ Aside (IsWr bw bw T col ws)) (fun kv _ => m - (intOf kv).toNat)
            case atStart => exact ⟨1, rfl, Nat.le_refl _, hm0, HR1, hB, HWr⟩
            case round =>
              clear hB HWr HR1 kk1 kk2
              obtain ⟨k, rfl, hk1, hkm, HK, hB, HWr⟩ := hrel
              by_cases hlt : k < m
              · have dd1 : decide ((k : Int) < (m : Int)) = true := decide_eq_true (by omega)
                have dd2 : decide (k < m) = true := decide_eq_true hlt
                obtain ⟨d1, d2, hd⟩ : ∃ d1 d2, S[k]? = some (d1, d2) := ⟨_, _, List.getElem?_eq_getElem (by rw [← HM.out]; exact hlt)⟩
                have hdr : S.drop k = (d1, d2) :: S.drop (k + 1) := by
                  obtain ⟨hl, he⟩ := List.getElem?_eq_some_iff.1 hd
                  rw [List.drop_eq_getElem_cons hl, he]
                have HDR := Lib.hid hdr
                obtain ⟨v0, v1⟩ := HCL.out _ hB
                obtain ⟨v2, v3⟩ := HRD.out.at_ hB hd
                clear hd hdr
                by_cases hy : d2 = c2
                · subst hy
                  have he1 : (d2 == d2) = true := by simp
                  by_cases hx : d1 = c1 + k
                  · have he2 : (d1 == c1 + k) = true := by simpa using hx
                    have HX := Lib.hid hx
                    clear hx
                    go_wp2_with fail
                    go_quiet (fail)
                    go_wp2_with fail
                    refine ⟨⟨k + 1, by go_num, by omega, by omega, ?_, hB.trans (Joins.below_draws _ _ _), HWr.out.below (Joins.below_draws _ _ _)⟩, by simp [intOf]; omega⟩
                    show _ = _
                    rw [← HK.out, HDR.out, runN, if_pos ⟨rfl, HX.out⟩]
                  · have he2 : (d1 == c1 + k) = false := by simpa using hx
                    have HN := Lib.hid (show k = N by rw [← HK.out, HDR.out, runN, if_neg (fun h => hx h.2)])
                    clear hx
                    go_wp2_with fail
                    go_quiet (fail)
                    go_wp2_with fail
                    go_meet
                    exact ⟨by rw [HN.out], hB.trans (Joins.below_draws _ _ _), HWr.out.below (Joins.below_draws _ _ _)⟩
                · have he1 : (d2 == c2) = false := by simpa using hy
                  have HN := Lib.hid (show k = N by rw [← HK.out, HDR.out, runN, if_neg (fun h => hy h.1)])
                  clear hy
                  go_wp2_with fail
                  go_quiet (fail)
                  go_wp2_with fail
                  go_meet
                  exact ⟨by rw [HN.out], hB.trans (Joins.below_draws _ _ _), HWr.out.below (Joins.below_draws _ _ _)⟩
              · obtain rfl : k = m := by omega
                have dd1 : decide ((k : Int) < (k : Int)) = false := decide_eq_false (by omega)
                have dd2 : decide (k < k) = false := decide_eq_false (by omega)
                have HN := Lib.hid (show k = N by rw [← HK.out, HM.out, List.drop_length, runN])
                go_wp2_with fail
                go_quiet (fail)
                go_wp2_with fail
                go_meet
                exact ⟨by rw [HN.out], hB.trans (Joins.below_draws _ _ _), HWr.out.below (Joins.below_draws _ _ _)⟩
          case rest =>
          obtain ⟨rfl, hcb, hcw⟩ := hcut
          clear hB HWr kk1 kk2 HR1
          obtain ⟨q1, q2⟩ := HCL.out _ hcb
          have hzc := hcb.size
          have hRdN := HRD.out.drop (n := N) (by rw [← HM.out]; exact hNm)
          rw [← HM.out] at hRdN
          have HRDN := Lib.hid hRdN
          have hSN : Aside ((S.drop N).length = m - N) := by show _ = _; rw [List.length_drop, ← HM.out]
          clear hRdN
          by_cases hyy : y < c2
          · have tg1 : decide (c2 > y) = true := decide_eq_true hyy
            have tg2 : decide (y < c2) = true := decide_eq_true hyy
            obtain rfl : x' = x0 := HX3.out hyy
            have hk1J := HK1I.out
            have hk2J := HK2I.out
            go_wp2_with fail
            refine (HP1.out _ hcb hcw).mono ?_
            rintro e w5 ⟨rfl, hb5, hw5⟩
            have bx := HBK.out _ hb5
            have g0 := Joins.cell_of_block bx 0
            simp at g0
            obtain ⟨q3, q4⟩ := HCL.out _ hb5
            clear bx hk1J q1 q2
            go_wp2_with fail
            go_quiet (fail)
            go_wp2_with fail
            refine (HP2.out _ (hb5.trans (Joins.below_draws _ _ _)) (hw5.out.below (Joins.below_draws _ _ _))).mono ?_
            rintro e w6 ⟨rfl, hb6, hw6⟩
            go_wp2_with fail
            refine (HP3.out _ hb6 hw6).mono ?_
            rintro e w7 ⟨rfl, hb7, hw7⟩
            obtain ⟨q5, q6⟩ := HCL.out _ hb7
            clear q3 q4 hk2J
            go_wp2_with fail
            refine ⟨⟨S.drop N, f', c1 + (N : Nat), c2, T3, col3, rfl, rfl, HRDN.out, by rw [hSN.out]; omega, by omega, HW2.out, HE2.out, e3b, by omega, hb7, hw7⟩, ?_⟩
            simp [lenS]
            omega
          · obtain ⟨hxe, hye⟩ := HX4.out hyy
            subst hxe
            subst hye
            have tg1 : decide (y > y) = false := decide_eq_false (by omega)
            have tg2 : decide (y < y) = false := decide_eq_false (by omega)
            obtain ⟨hT1, hcol1⟩ := H10.out (by have := HK1I.out; omega)
            subst hT1
            subst hcol1
            have hk2J := HK2I.out
            clear hyy
            go_wp2_with fail
            refine (HP2.out _ hcb hcw).mono ?_
            rintro e w6 ⟨rfl, hb6, hw6⟩
            go_wp2_with fail
            refine (HP3.out _ hb6 hw6).mono ?_
            rintro e w7 ⟨rfl, hb7, hw7⟩
            obtain ⟨q5, q6⟩ := HCL.out _ hb7
            clear q1 q2 hk2J
            go_wp2_with fail
            refine ⟨⟨S.drop N, f', c1 + (N : Nat), y, T3, col3, rfl, rfl, HRDN.out, by rw [hSN.out]; omega, by omega, HW2.out, HE2.out, e3b, by omega, hb7, hw7⟩, ?_⟩
            simp [lenS]
            omega
        · obtain rfl : m = 0 := by omega
          have hS0 : S = [] := List.eq_nil_of_length_eq_zero HM.out.symm
          have HEND : Aside (bodyT r t = (layP (T, col) [33]).1 ++ [10]) := by
            show _ = _
            have h := HE.out
            rw [hS0, pcs_nil, layF_nil] at h
            rw [bodyT, layF_append, ← HWH.out.1, ← HWH.out.2, ← HHE.out, ← HBX.out]
            simp only
            rw [← HN.out, h, layF_one]
          have hl1 := layP_len (T, col) [33]
          obtain ⟨⟨T1, col1⟩, h1⟩ : ∃ p, p = layP (T, col) [33] := ⟨_, rfl⟩
          have HEND2 : Aside (bodyT r t = T1 ++ [10]) := by
            show _ = _
            rw [HEND.out, ← h1]
          rw [← h1] at hl1
          simp only [List.length_cons, List.length_nil] at hl1
          have hp1 : ∀ W, Below bw X W → Aside (IsWr bw bw T col W) → Calls Tryd.prog 29 #[.pointer (some ⟨bw, 0, none⟩), .int .i64 1, .int .u8 33] W fun e w' => e = .returned (.tuple #[]) ∧ Below bw X w' ∧ Aside (IsWr bw bw T1 col1 w') := fun W h h' => by
            have := HPC.out T col 1 33 33 W conv33 h h' (by omega) hcol (by omega)
            rw [show tok 1 33 = [[33]] from rfl, layF_one, ← h1] at this
            exact this
          have HP1 := Lib.hid hp1
          have tg : decide (0 < (0 : Int)) = false := by decide
          clear h1 hp1 hS0 HE HW
          go_wp2_with fail
          refine (HP1.out _ hB HWr).mono ?_
          rintro e w5 ⟨rfl, hb5, hw5⟩
          have hz5 := hb5.size
          go_wp2_with fail
          refine (writeByteW bw bw T1 col1 10 10 rfl w5 hw5.out (by omega) (by omega)).mono ?_
          rintro e w6 ⟨rfl, hw6, hb6⟩
          go_wp2_with fail
          refine (stringW bw bw (T1 ++ [10]) col1 w6 hw6 (by simp)).mono ?_
          rintro e w7 ⟨rfl, hb7⟩
          go_wp2_with fail
          go_ret2
          refine ⟨?_, HWX.out.trans (((hb5.trans hb6).trans hb7).mono hwb)⟩
          rw [HO.out, HEND2.out]
          rfl
    · have hg' : goodF rb rl = false := by simpa using hg
      have HO := Lib.hid (encF_bad HR.out hg')
      have HTxt := Lib.hid (text_no rb rl w1 hg')
      clear hg hg'
      go_wp2_with fail
      refine HTxt.out.mono ?_
      rintro e w2 ⟨rfl, hb2⟩
      go_wp2_with fail
      go_ret2
      refine ⟨?_, HB1.out.trans (hb2.mono hz1)⟩
      rw [HO.out]; rfl
  · have he1 : (er == 0) = false := by simpa using he
    have he2 : (er != 0) = true := by simpa using he
    have HO := Lib.hid (encF_err (rb := rb) (rl := rl) HR.out he)
    clear he
    go_wp2_with fail
    go_ret2
    refine ⟨?_, HB1.out⟩
    rw [HO.out]; rfl
end Go.Proofs.YtdmamecfmfhlmaaDoor
