/-
  The document's DecodeCells: the lines ahead, and where the head ends. (In work.)
-/
import Derived.Test.YtffgpjkkgndkiaaSkipMath
import Derived.Test.YtffgpjkkgndkiaaRefHead
import Derived.Test.YtffgpjkkgndkiaaDecodes
import Derived.Test.YtffgpjkkgndkiaaDecMath
namespace Go.Proofs.Ytffgpjkkgndkiaa
set_option maxRecDepth 100000
open Go.RowKit

theorem cut_here {l : List UInt8} {c : UInt8} {a e : Nat} (h : ∀ i, a ≤ i → i < e → l[i]? ≠ some c) (hae : a ≤ e) (he : l[e]? = some c) : cutL c (l.drop a) = some ((l.drop a).take (e - a), l.drop (e + 1)) := by
  rw [cutL_at (i := e - a) (fun j hj => by rw [List.getElem?_drop]; exact h (a + j) (by omega) (by omega)) (by rw [List.getElem?_drop, show a + (e - a) = e by omega]; exact he), List.drop_drop]
  congr 3
  omega
theorem cut_nowhere {l : List UInt8} {c : UInt8} {a : Nat} (h : ∀ i, a ≤ i → i < l.length → l[i]? ≠ some c) : cutL c (l.drop a) = none :=
  cutL_none fun j hj => by rw [List.length_drop] at hj; rw [List.getElem?_drop]; exact h (a + j) (by omega) (by omega)
theorem cutAns_some {l : List UInt8} {c : UInt8} {p : List UInt8 × List UInt8} (h : cutL c l = some p) : cutAns l c = (p.1, p.2, true) := by rw [cutAns, h]
theorem cutAns_none {l : List UInt8} {c : UInt8} (h : cutL c l = none) : cutAns l c = (l, [], false) := by rw [cutAns, h]
theorem pre35_at {l : List UInt8} {a : Nat} {c : UInt8} (h : l[a]? = some c) : preB [35] (l.drop a) = decide (c.toNat = 35) := by
  have hd : l.drop a = c :: l.drop (a + 1) := by
    have hl := (List.getElem?_eq_some_iff.1 h)
    rw [List.drop_eq_getElem_cons hl.1, hl.2]
  rw [Bool.eq_iff_iff, pre35, hd, decide_eq_true_iff]
  constructor
  · rintro ⟨r, hr⟩
    rw [(List.cons.inj hr).1]; rfl
  · intro hc
    exact ⟨_, by rw [byte_is hc 35 rfl]⟩
theorem not_ten {l : List UInt8} {i : Nat} {c : UInt8} (h : l[i]? = some c) (hc : c.toNat ≠ 10) : l[i]? ≠ some 10 := fun e => by
  rw [h] at e
  exact hc (by rw [Option.some.inj e]; rfl)
theorem letter_cases (c : UInt8) (hd : isD c = false) : c = 32 ∨ c = 9 ∨ c = 10 ∨ c = 13 ∨ c = 33 ∨ c = 36 ∨ c = 98 ∨ c = 111 ∨ ((c.toNat < 48 ∨ 57 < c.toNat) ∧ c.toNat ≠ 32 ∧ c.toNat ≠ 9 ∧ c.toNat ≠ 10 ∧ c.toNat ≠ 13 ∧ c.toNat ≠ 33 ∧ c.toNat ≠ 36 ∧ c.toNat ≠ 98 ∧ c.toNat ≠ 111) := by
  have hn : ¬ (48 ≤ c.toNat ∧ c.toNat ≤ 57) := fun h => by rw [isD_iff.2 h] at hd; cases hd
  by_cases a1 : c.toNat = 32
  · exact .inl (byte_is a1 _ rfl)
  by_cases a2 : c.toNat = 9
  · exact .inr (.inl (byte_is a2 _ rfl))
  by_cases a3 : c.toNat = 10
  · exact .inr (.inr (.inl (byte_is a3 _ rfl)))
  by_cases a4 : c.toNat = 13
  · exact .inr (.inr (.inr (.inl (byte_is a4 _ rfl))))
  by_cases a5 : c.toNat = 33
  · exact .inr (.inr (.inr (.inr (.inl (byte_is a5 _ rfl)))))
  by_cases a6 : c.toNat = 36
  · exact .inr (.inr (.inr (.inr (.inr (.inl (byte_is a6 _ rfl))))))
  by_cases a7 : c.toNat = 98
  · exact .inr (.inr (.inr (.inr (.inr (.inr (.inl (byte_is a7 _ rfl)))))))
  by_cases a8 : c.toNat = 111
  · exact .inr (.inr (.inr (.inr (.inr (.inr (.inr (.inl (byte_is a8 _ rfl))))))))
  exact .inr (.inr (.inr (.inr (.inr (.inr (.inr (.inr ⟨by omega, a1, a2, a3, a4, a5, a6, a7, a8⟩)))))))
set_option maxHeartbeats 8000000 in
theorem refDecode_any (l : List UInt8) (w : World) (hl : l.length ≤ 140737488351232) :
    Calls Try.prog 12 #[.string (txt l)] w (Decoded w (decodeF l)) := by
  obtain ⟨S, hS⟩ : ∃ S, S = txt l := ⟨_, rfl⟩
  have hsz : S.size = l.length := by rw [hS, txt_size]
  by_cases hlong : 20000 < l.length
  · have hf : decodeF l = (([], (0, 0)), 1) := by rw [decodeF, if_pos hlong]
    have HF := Lib.hid hf
    rw [← hS]
    obtain ⟨n, hn⟩ : ∃ n, n = l.length := ⟨_, rfl⟩
    rw [← hn] at hsz hlong hl
    have t1 : decide ((20000 : Int) < (n : Int)) = true := decide_eq_true (by omega)
    clear hf hS hn
    go_enter Try.func12, Try.ntmps12
    go_wp2_with fail
    refine bodyPost_ret (v := .tuple #[.slice none 0 0, .agg #[.int .i64 0, .int .i64 0], .int .i64 1]) (by simp [results, Try.results12, go_sem]) rfl (Decoded.no HF.out ((Below.refl _ _).alloc (Nat.le_refl _) _))
  · have hf0 : Aside (decodeF l = bodyF (skipG l.length (l.drop 0))) := by show _ = _; rw [decodeF, if_neg hlong]; rfl
    obtain ⟨n, hn⟩ : ∃ n, n = l.length := ⟨_, rfl⟩
    have t1 : decide ((20000 : Int) < (n : Int)) = false := decide_eq_false (by omega)
    rw [← hS]
    rw [← hn] at hsz hf0
    have HN := Lib.hid hn
    have HS := Lib.hid hS
    have hlen : n ≤ 20000 := by omega
    have hget : ∀ a, a < n → ∃ c, l[a]? = some c := fun a ha => ⟨_, List.getElem?_eq_getElem (by omega)⟩
    have hat : ∀ a c, l[a]? = some c → ∀ h : a < S.size, S[a].toNat = c.toNat := fun a c h hs => by subst hS; exact txt_get h hs
    have HGET := Lib.hid hget
    have HAT := Lib.hid hat
    clear hS hn hlong hget hat
    go_enter Try.func12, Try.ntmps12
    go_wp2_with fail
    obtain ⟨W0, hW0⟩ : ∃ W, W = w.alloc (.cells #[.int .i64 0, .int .i64 0] 24) := ⟨_, rfl⟩
    have hb0 : W0.heap[w.heap.size]? = some (.cells #[.int .i64 0, .int .i64 0] 24 (0, 0)) := by rw [hW0]; exact blk_last w _ rfl
    have hB0 : Below w.heap.size w W0 := by rw [hW0]; exact (Below.refl _ _).alloc (Nat.le_refl _) _
    rw [← hW0]
    clear hW0
    go_loopw [5] (fun at_ wr => ∃ a k : Nat, at_ = .int .i64 a ∧ a ≤ n ∧ n - a ≤ k ∧ Aside (decodeF l = bodyF (skipG k (l.drop a))) ∧ wr = W0) (fun at_ _ => n - (intOf at_).toNat)
    case atStart => exact ⟨0, n, rfl, Nat.zero_le _, by omega, hf0, rfl⟩
    case round =>
      clear hf0
      obtain ⟨a, k, rfl, han, hk, HF, hw⟩ := hrel
      subst hw
      by_cases hsharp : ∃ c, l[a]? = some c ∧ c.toNat = 35
      · obtain ⟨c, hc, h35⟩ := hsharp
        have haS : a < S.size := by have := (List.getElem?_eq_some_iff.1 hc).1; have := HN.out; omega
        have hg : S[a].toNat = 35 := by rw [HAT.out a c hc haS, h35]
        have han2 : a < n := by omega
        have ta : decide (a < n) = true := decide_eq_true han2
        have hpre : preB [35] (l.drop a) = true := by rw [pre35_at hc, h35]; rfl
        obtain ⟨k', rfl⟩ : ∃ k', k = k' + 1 := ⟨k - 1, by omega⟩
        have hsk := skipG_yes k' hpre
        have HSK := Lib.hid (HF.out.trans (congrArg bodyF hsk))
        obtain ⟨V, hV⟩ : ∃ V, V = wr := ⟨_, rfl⟩
        subst hV
        clear hpre hsk hc
        go_wp2_with fail
        go_loopw [5] (fun at_ wr => ∃ e : Nat, at_ = .int .i64 e ∧ a ≤ e ∧ e ≤ n ∧ Aside (∀ i, a ≤ i → i < e → l[i]? ≠ some 10) ∧ wr = V) (fun at_ _ => n - (intOf at_).toNat)
        case atStart => exact ⟨a, rfl, Nat.le_refl _, han, fun i h1 h2 => by omega, rfl⟩
        case round =>
          obtain ⟨e, rfl, hae, hen, HNO, hw⟩ := hrel
          subst hw
          by_cases hlt : e < n
          · obtain ⟨d, hd⟩ := HGET.out e hlt
            have heS : e < S.size := by omega
            have hgd := HAT.out e d hd heS
            have te : decide (e < n) = true := decide_eq_true hlt
            by_cases h10 : d.toNat = 10
            · have hcut := cut_here HNO.out hae (hd.trans (by rw [byte_is h10 10 rfl]))
              have HF2 : Aside (decodeF l = bodyF (skipG k' (l.drop (e + 1)))) := by show _ = _; rw [HSK.out, cutAns_some hcut]
              rw [h10] at hgd
              clear hcut hd
              go_wp2_with fail
              exact ⟨⟨e + 1, k', by go_num, by omega, by omega, HF2, by first | rfl | trivial⟩, by simp [intOf]; omega⟩
            · obtain ⟨y, hy⟩ : ∃ y, y = d.toNat := ⟨_, rfl⟩
              have HNO2 : Aside (∀ i, a ≤ i → i < e + 1 → l[i]? ≠ some 10) := fun i h1 h2 => by
                by_cases hie : i = e
                · rw [hie]; exact not_ten hd h10
                · exact HNO.out i h1 (by omega)
              rw [← hy] at hgd h10
              have hylt : y < 256 := by rw [hy]; exact UInt8.toNat_lt _
              have ty : ((y : Int) == 10) = false := by simp; omega
              clear hd hy
              go_wp2_with fail
              exact ⟨⟨e + 1, by go_num, by omega, by omega, HNO2, by first | rfl | trivial⟩, by simp [intOf]; omega⟩
          · obtain rfl : n = e := by omega
            have te : decide (n < n) = false := decide_eq_false (by omega)
            have hcut := cut_nowhere (l := l) (c := 10) (a := a) (by rw [← HN.out]; exact HNO.out)
            have HF2 : Aside (decodeF l = bodyF (skipG k' (l.drop n))) := by show _ = _; rw [HSK.out, cutAns_none hcut, HN.out, List.drop_length]
            clear hcut
            go_wp2_with fail
            exact ⟨⟨n, k', by go_num, by omega, by omega, HF2, by first | rfl | trivial⟩, by simp [intOf]; omega⟩
      · have hpre : preB [35] (l.drop a) = false := by
          cases hp : preB [35] (l.drop a)
          · rfl
          · exfalso
            obtain ⟨r, hr⟩ := (pre35 _).1 hp
            refine hsharp ⟨35, ?_, rfl⟩
            have : (l.drop a)[0]? = some 35 := by rw [hr]; rfl
            rwa [List.getElem?_drop, Nat.add_zero] at this
        have HBD := Lib.hid (HF.out.trans (congrArg bodyF (skipG_no hpre k)))
        have hexit : (¬ a < n) ∨ (∃ h : a < S.size, ∃ y, a < n ∧ S[a].toNat = y ∧ y ≠ 35 ∧ y < 256) := by
          by_cases h1 : a < n
          · obtain ⟨c, hc⟩ := HGET.out a h1
            have haS : a < S.size := by omega
            exact .inr ⟨haS, c.toNat, h1, HAT.out a c hc haS, fun h => hsharp ⟨c, hc, h⟩, UInt8.toNat_lt _⟩
          · exact .inl h1
        clear hpre hsharp HF
        rcases hexit with h1 | ⟨h0, y, h1, hg, hy, hylt⟩
        · have ta : decide (a < n) = false := decide_eq_false h1
          go_wp2_with fail
          obtain ⟨V, hV⟩ : ∃ V, V = wr := ⟨_, rfl⟩
          subst hV
          go_loopw [6] (fun en wr => ∃ e : Nat, en = .int .i64 e ∧ a ≤ e ∧ e ≤ n ∧ Aside (∀ i, a ≤ i → i < e → l[i]? ≠ some 10) ∧ wr = V) (fun en _ => n - (intOf en).toNat)
          case atStart => exact ⟨a, rfl, Nat.le_refl _, han, fun i h1 h2 => by omega, rfl⟩
          case round =>
            obtain ⟨e, rfl, hae, hen, HNO, hw⟩ := hrel
            subst hw
            by_cases hlt : e < n
            · exfalso; omega
            · obtain rfl : n = e := by omega
              have te : decide (n < n) = false := decide_eq_false (by omega)
              have te2 : decide (n ≤ n) = true := decide_eq_true (by omega)
              have hcut := cut_nowhere (l := l) (c := 10) (a := a) (by rw [← HN.out]; exact HNO.out)
              have HD := Lib.hid (HBD.out.trans (show bodyF (l.drop a) = (([], (0, 0)), 2) by rw [bodyF, hcut]))
              obtain ⟨B, hBe⟩ : ∃ b, b = w.heap.size := ⟨_, rfl⟩
              have hBw : w.heap.size ≤ B := by omega
              rw [← hBe] at hb0 ⊢
              have z0 : wr.cell? ⟨B, 0, none⟩ = some (.int .i64 0) := Joins.cell_of_block hb0 0
              have z1 : wr.cell? ⟨B, 1, none⟩ = some (.int .i64 0) := Joins.cell_of_block hb0 1
              have f0 : wr.frozen? ⟨B, 0, none⟩ = false := Joins.unfrozen_of_block hb0 0
              have f1 : wr.frozen? ⟨B, 1, none⟩ = false := Joins.unfrozen_of_block hb0 1
              obtain ⟨p0, p1⟩ := box_store (W := wr) hb0 (.int .i64 0) (.int .i64 0)
              have HBF := Lib.hid ((hB0.setCell (p := ⟨B, 0, none⟩) hBw (.int .i64 0)).setCell (p := ⟨B, 1, none⟩) hBw (.int .i64 0))
              clear hcut hBe
              go_wp2_with fail
              refine bodyPost_ret (v := .tuple #[.slice none 0 0, .agg #[.int .i64 0, .int .i64 0], .int .i64 2]) (by simp [results, Try.results12, go_sem, p0, p1]) rfl (Decoded.no HD.out HBF.out)
        · have ta : decide (a < n) = true := decide_eq_true h1
          have ty0 : ((y : Int) == 35) = false := by simp; omega
          go_wp2_with fail
          obtain ⟨V, hV⟩ : ∃ V, V = wr := ⟨_, rfl⟩
          subst hV
          go_loopw [6] (fun en wr => ∃ e : Nat, en = .int .i64 e ∧ a ≤ e ∧ e ≤ n ∧ Aside (∀ i, a ≤ i → i < e → l[i]? ≠ some 10) ∧ wr = V) (fun en _ => n - (intOf en).toNat)
          case atStart => exact ⟨a, rfl, Nat.le_refl _, han, fun i h1 h2 => by omega, rfl⟩
          case round =>
            obtain ⟨e, rfl, hae, hen, HNO, hw⟩ := hrel
            subst hw
            by_cases hlt : e < n
            · obtain ⟨d, hd⟩ := HGET.out e hlt
              have heS : e < S.size := by omega
              have hgd := HAT.out e d hd heS
              have te : decide (e < n) = true := decide_eq_true hlt
              by_cases h10 : d.toNat = 10
              · have hcut := cut_here HNO.out hae (hd.trans (by rw [byte_is h10 10 rfl]))
                have te2 : decide (n ≤ e) = false := decide_eq_false (by omega)
                have hx : S.extract a e = txt ((l.drop a).take (e - a)) := by rw [HS.out, extract_list, List.drop_take]
                obtain ⟨F, hF⟩ : ∃ F, F = (l.drop a).take (e - a) := ⟨_, rfl⟩
                obtain ⟨C, hC⟩ : ∃ C, C = l.drop (e + 1) := ⟨_, rfl⟩
                rw [← hF] at hx hcut
                rw [← hC] at hcut
                have hFl : F.length ≤ 20000 := by rw [hF, List.length_take, List.length_drop]; have := HN.out; omega
                have hCl : C.length = n - (e + 1) := by rw [hC, List.length_drop, HN.out]
                have hhd := fun W => headOf_any F W (by omega)
                rw [← hx] at hhd
                have HHD := Lib.hid hhd
                have hbod : bodyF (l.drop a) = match headF F with
                  | none => (([], (0, 0)), 2)
                  | some h => if (scanG h.1.1 h.1.2 (C.length + 1) C 0 0 []).2 = 0 then (((scanG h.1.1 h.1.2 (C.length + 1) C 0 0 []).1, h.2), 0) else (([], (0, 0)), (scanG h.1.1 h.1.2 (C.length + 1) C 0 0 []).2) := by rw [bodyF, hcut]; rfl
                have HBOD := Lib.hid (HBD.out.trans hbod)
                have HC := Lib.hid hC
                rw [h10] at hgd
                have w1 : (a : Int) ≤ (e : Int) := by omega
                clear hcut hd hhd hbod hF hC hx
                go_wp2_with fail
                refine (HHD.out _).mono ?_
                rintro e' W3 ⟨ha, hbb, hc, hd, g, rfl, hx3, hcase⟩
                have hb3 := (hx3.block _ (lt_of_block hb0)).trans hb0
                have hB3 := hB0.trans (hx3.mono hB0.size)
                clear hx3 HHD
                obtain ⟨B, hBe⟩ : ∃ b, b = w.heap.size := ⟨_, rfl⟩
                have hBw : w.heap.size ≤ B := by omega
                have hlt3 := lt_of_block hb3
                rw [← hBe] at hb3 hlt3 ⊢
                clear hBe
                rcases hcase with ⟨hno, rfl⟩ | ⟨n', m', r', hs, rfl, rfl, rfl, rfl, rfl⟩
                · have HD := Lib.hid (HBOD.out.trans (by rw [hno]))
                  have z0 : W3.cell? ⟨B, 0, none⟩ = some (.int .i64 0) := Joins.cell_of_block hb3 0
                  have z1 : W3.cell? ⟨B, 1, none⟩ = some (.int .i64 0) := Joins.cell_of_block hb3 1
                  have f0 : W3.frozen? ⟨B, 0, none⟩ = false := Joins.unfrozen_of_block hb3 0
                  have f1 : W3.frozen? ⟨B, 1, none⟩ = false := Joins.unfrozen_of_block hb3 1
                  obtain ⟨p0, p1⟩ := box_store_alloc (W := W3) hb3 (.int .i64 0) (.int .i64 0) (.cells #[.int .i64 hc, .int .i64 hd] 24)
                  have HBF := Lib.hid (((hB3.setCell (p := ⟨B, 0, none⟩) hBw (.int .i64 0)).setCell (p := ⟨B, 1, none⟩) hBw (.int .i64 0)).alloc (by simpa using hB3.size) (.cells #[.int .i64 hc, .int .i64 hd] 24))
                  clear hno
                  go_wp2_with fail
                  refine bodyPost_ret (v := .tuple #[.slice none 0 0, .agg #[.int .i64 0, .int .i64 0], .int .i64 2]) (by simp [results, Try.results12, go_sem, p0, p1]) rfl (Decoded.no HD.out HBF.out)
                · have hlim := headF_lt hs
                  have hbod2 : decodeF l = if (scanG n' m' (C.length + 1) C 0 0 []).2 = 0 then (((scanG n' m' (C.length + 1) C 0 0 []).1, r'), 0) else (([], (0, 0)), (scanG n' m' (C.length + 1) C 0 0 []).2) := HBOD.out.trans (by rw [hs])
                  obtain ⟨FIN, hFIN⟩ : ∃ F, F = scanG n' m' (C.length + 1) C 0 0 [] := ⟨_, rfl⟩
                  rw [← hFIN] at hbod2
                  have HD := Lib.hid hbod2
                  have HFIN := Lib.hid hFIN
                  obtain ⟨r1, r2⟩ := r'
                  dsimp only at hlim HD ⊢
                  obtain ⟨R, hR⟩ : ∃ R, R = W3.heap.size := ⟨_, rfl⟩
                  have hbr : (W3.alloc (.cells #[.int .i64 r1, .int .i64 r2] 24)).heap[R]? = some (.cells #[.int .i64 r1, .int .i64 r2] 24 (0, 0)) := by rw [hR]; exact blk_last W3 _ rfl
                  have hbb4 := blk_alloc hb3 (.cells #[.int .i64 r1, .int .i64 r2] 24)
                  have hB4 := hB3.alloc hB3.size (.cells #[.int .i64 r1, .int .i64 r2] 24)
                  have hBR : B < R := by omega
                  have HNI := Lib.hid (newInt_any 0)
                  clear hs hbod2 hFIN HBOD
                  go_wp2_with fail
                  refine (HNI.out _ (by omega)).mono ?_
                  rintro e' W5 ⟨rfl, hx5, hy5⟩
                  have hbr5 := (hy5.block _ (lt_of_block hbr)).trans hbr
                  have hbb5 := (hy5.block _ (lt_of_block hbb4)).trans hbb4
                  have hB5 := hB4.trans (hy5.mono hB4.size)
                  obtain ⟨px, hpx⟩ : ∃ p, p = (W3.alloc (.cells #[.int .i64 r1, .int .i64 r2] 24)).heap.size := ⟨_, rfl⟩
                  have hRx : R < px := by rw [hpx, hR]; simp
                  have hx5 : BigAt W5 px 0 := by rw [hpx]; exact hx5
                  rw [← hpx, ← hR]
                  clear hpx hy5 hbr hbb4 hB4 hR
                  go_wp2_with fail
                  refine (HNI.out _ (by omega)).mono ?_
                  rintro e' W6 ⟨rfl, hx6, hy6⟩
                  have hst : DecSt w W6 B R px W5.heap.size r1 r2 0 0 := ⟨(hy6.block _ (lt_of_block hbb5)).trans hbb5, (hy6.block _ (lt_of_block hbr5)).trans hbr5, hx5.below hy6, hx6, hB5.trans (hy6.mono hB5.size), hBw, hBR, hRx, hx5.lt⟩
                  obtain ⟨py, hpy⟩ : ∃ p, p = W5.heap.size := ⟨_, rfl⟩
                  rw [← hpy] at hst ⊢
                  have HST0 := Lib.hid hst
                  clear hpy hst hx6 hy6 hx5 hbr5 hbb5 hB5 hb3 hB3 hb0 hB0 hlt3 HNI
                  go_wp2_with fail
                  go_loopw [5, 11] (fun at_ out wr => ∃ (p k X Y : Nat) (xs : List (Int × Int)), at_ = .int .i64 p ∧ p ≤ n ∧ n - p < k ∧ Aside (FIN = scanG n' m' k (l.drop p) X Y xs) ∧ wr.ownsRow (py + 1) 72 2 out xs.length (xs.flatMap encCell) ∧ xs.length ≤ 4096 ∧ DecSt w wr B R px py r1 r2 X Y ∧ X ≤ 1000000000000 * p ∧ Y ≤ 1000000000000 * p) (fun at_ _ _ => n - (intOf at_).toNat)
                  case atStart => exact ⟨e + 1, C.length + 1, 0, 0, [], by go_num, by omega, by omega, by show _ = _; rw [← HC.out]; exact HFIN.out, World.ownsRow_nil _ _ _ _, by simp, HST0.out, by omega, by omega⟩
                  case round =>
                    obtain ⟨p, k1, X, Y, xs, rfl, hpn, hk, HF, hown, hxl, hst, hX, hY⟩ := hrel
                    obtain ⟨va, vc, rfl⟩ := own_form hown
                    obtain ⟨k, rfl⟩ : ∃ k, k1 = k + 1 := ⟨k1 - 1, by omega⟩
                    have HO := Lib.hid hown
                    have HXLE := Lib.hid hxl
                    have HDS := Lib.hid hst
                    obtain ⟨xl, hXL⟩ : ∃ xl, xl = xs.length := ⟨_, rfl⟩
                    have HXL := Lib.hid hXL
                    rw [← hXL] at HO hxl ⊢
                    have HOX := Lib.hid (show wr.ownsRow (py + 1) 72 2 (.slice va xl vc) xs.length (xs.flatMap encCell) by rw [← hXL]; exact HO.out)
                    have hbB := hst.b
                    have hbR := hst.r
                    have z0 : wr.cell? ⟨B, 0, none⟩ = some (.int .i64 0) := Joins.cell_of_block hbB 0
                    have z1 : wr.cell? ⟨B, 1, none⟩ = some (.int .i64 0) := Joins.cell_of_block hbB 1
                    have f0 : wr.frozen? ⟨B, 0, none⟩ = false := Joins.unfrozen_of_block hbB 0
                    have f1 : wr.frozen? ⟨B, 1, none⟩ = false := Joins.unfrozen_of_block hbB 1
                    obtain ⟨p0, p1⟩ := box_store (W := wr) hbB (.int .i64 0) (.int .i64 0)
                    have HBF := Lib.hid ((hst.below.setCell (p := ⟨B, 0, none⟩) hBw (.int .i64 0)).setCell (p := ⟨B, 1, none⟩) hBw (.int .i64 0))
                    clear hown hXL hst hbB hbR HST0
                    by_cases hlt4 : p < n
                    · have tp : decide (p < n) = true := decide_eq_true hlt4
                      obtain ⟨c, hc⟩ := HGET.out p hlt4
                      have hpS : p < S.size := by omega
                      have hgc := HAT.out p c hc hpS
                      have hdrop : l.drop p = c :: l.drop (p + 1) := by
                        have h := List.getElem?_eq_some_iff.1 hc
                        rw [List.drop_eq_getElem_cons h.1, h.2]
                      cases hd : isD c
                      · have HSTP := Lib.hid (show stepF (l.drop p) = some (1, c, l.drop (p + 1)) by rw [hdrop]; exact step_plain hd)
                        have hcase := letter_cases c hd
                        have HDG := Lib.hid (digit_any c)
                        rw [hd] at HDG
                        clear hd hdrop hc
                        rcases hcase with rfl | rfl | rfl | rfl | rfl | rfl | rfl | rfl | hbad
                        · have hgc : S[p].toNat = 32 := hgc
                          go_wp2_with fail
                          refine (HDG.out _).mono ?_
                          rintro e' wr ⟨rfl, hWd⟩
                          subst hWd
                          clear HDG
                          have HF2 := Lib.hid (show FIN = scanG n' m' k (l.drop (p + 1)) X Y xs by rw [HF.out, scan_ws HSTP.out (by decide)])
                          go_wp2_with fail
                          exact ⟨⟨p + 1, k, X, Y, xs, by go_num, by omega, by omega, HF2.out, HOX.out, HXLE.out, HDS.out, by omega, by omega⟩, by simp [intOf]; omega⟩
                        · have hgc : S[p].toNat = 9 := hgc
                          go_wp2_with fail
                          refine (HDG.out _).mono ?_
                          rintro e' wr ⟨rfl, hWd⟩
                          subst hWd
                          clear HDG
                          have HF2 := Lib.hid (show FIN = scanG n' m' k (l.drop (p + 1)) X Y xs by rw [HF.out, scan_ws HSTP.out (by decide)])
                          go_wp2_with fail
                          exact ⟨⟨p + 1, k, X, Y, xs, by go_num, by omega, by omega, HF2.out, HOX.out, HXLE.out, HDS.out, by omega, by omega⟩, by simp [intOf]; omega⟩
                        · have hgc : S[p].toNat = 10 := hgc
                          go_wp2_with fail
                          refine (HDG.out _).mono ?_
                          rintro e' wr ⟨rfl, hWd⟩
                          subst hWd
                          clear HDG
                          have HF2 := Lib.hid (show FIN = scanG n' m' k (l.drop (p + 1)) X Y xs by rw [HF.out, scan_ws HSTP.out (by decide)])
                          go_wp2_with fail
                          exact ⟨⟨p + 1, k, X, Y, xs, by go_num, by omega, by omega, HF2.out, HOX.out, HXLE.out, HDS.out, by omega, by omega⟩, by simp [intOf]; omega⟩
                        · have hgc : S[p].toNat = 13 := hgc
                          go_wp2_with fail
                          refine (HDG.out _).mono ?_
                          rintro e' wr ⟨rfl, hWd⟩
                          subst hWd
                          clear HDG
                          have HF2 := Lib.hid (show FIN = scanG n' m' k (l.drop (p + 1)) X Y xs by rw [HF.out, scan_ws HSTP.out (by decide)])
                          go_wp2_with fail
                          exact ⟨⟨p + 1, k, X, Y, xs, by go_num, by omega, by omega, HF2.out, HOX.out, HXLE.out, HDS.out, by omega, by omega⟩, by simp [intOf]; omega⟩
                        · have hgc : S[p].toNat = 33 := hgc
                          go_wp2_with fail
                          refine (HDG.out _).mono ?_
                          rintro e' wr ⟨rfl, hWd⟩
                          subst hWd
                          clear HDG
                          have hfin : FIN = (xs, 0) := by rw [HF.out, scan_end HSTP.out]
                          have HD2 : Aside (decodeF l = ((xs, (r1, r2)), 0)) := by show _ = _; rw [HD.out, hfin]; rfl
                          have hbB := HDS.out.b
                          have hbR := HDS.out.r
                          have c0 : wr.cell? ⟨R, 0, none⟩ = some (.int .i64 r1) := Joins.cell_of_block hbR 0
                          have c1 : wr.cell? ⟨R, 1, none⟩ = some (.int .i64 r2) := Joins.cell_of_block hbR 1
                          clear p0 p1 hfin
                          obtain ⟨p0, p1⟩ := box_store (W := wr) hbB (.int .i64 r1) (.int .i64 r2)
                          have HBF5 := Lib.hid (((HDS.out.below.setCell (p := ⟨B, 0, none⟩) hBw (.int .i64 r1)).setCell (p := ⟨B, 1, none⟩) hBw (.int .i64 r2)).drew)
                          have d0 : wr.drew.cell? ⟨R, 0, none⟩ = some (.int .i64 r1) := c0
                          have d1 : wr.drew.cell? ⟨R, 1, none⟩ = some (.int .i64 r2) := c1
                          have y0 : wr.drew.cell? ⟨B, 0, none⟩ = some (.int .i64 0) := z0
                          have y1 : wr.drew.cell? ⟨B, 1, none⟩ = some (.int .i64 0) := z1
                          have k0 : wr.drew.frozen? ⟨B, 0, none⟩ = false := f0
                          have k1 : wr.drew.frozen? ⟨B, 1, none⟩ = false := f1
                          have HTF := Lib.hid ((tight_set (Tight.of_own HOX.out) hbB (.int .i64 r1) (.int .i64 r2)).mono (show w.heap.size ≤ py + 1 by have := HDS.out.hB; have := HDS.out.hBR; have := HDS.out.hRx; have := HDS.out.hxy; omega))
                          clear hbB hbR
                          go_wp2_with fail
                          go_region
                          go_wp2_with fail
                          refine bodyPost_ret (v := .tuple #[.slice va xl vc, .agg #[.int .i64 r1, .int .i64 r2], .int .i64 0]) (by simp [results, Try.results12, go_sem, p0, p1]) rfl ⟨.slice va xl vc, by rw [HD2.out], HBF5.out, by rw [HD2.out]; exact HTF.out⟩
                        · have hgc : S[p].toNat = 36 := hgc
                          go_wp2_with fail
                          refine (HDG.out _).mono ?_
                          rintro e' wr ⟨rfl, hWd⟩
                          subst hWd
                          clear HDG
                          have HF2 := Lib.hid (show FIN = scanG n' m' k (l.drop (p + 1)) 0 (Y + 1) xs by rw [HF.out, scan_line HSTP.out])
                          have HSI := Lib.hid (setInt64_any px 0 wr HDS.out.x.blk (by omega))
                          go_wp2_with fail
                          refine HSI.out.mono ?_
                          rintro e' Wz ⟨rfl, hxz, hkz⟩
                          have HDz := Lib.hid (HDS.out.setX hkz hxz)
                          have HOz := Lib.hid (own_keeps HOX.out hkz (by have := HDS.out.hxy; omega))
                          have HNI := Lib.hid (newInt_any 1 Wz (by omega))
                          clear hxz hkz HSI
                          go_wp2_with fail
                          refine HNI.out.mono ?_
                          rintro e' Wa ⟨rfl, hqa, hya⟩
                          have hds := HDz.out.grow hya
                          have HAD := Lib.hid (bigAdd_any py py Wz.heap.size Y 1 Wa hds.y.blk hds.y hqa (by omega))
                          have HOa := Lib.hid (own_below HOz.out hya)
                          have HDa := Lib.hid hds
                          clear hds hqa hya HNI
                          go_wp2_with fail
                          refine HAD.out.mono ?_
                          rintro e' Wb ⟨rfl, hxb, hkb⟩
                          have HDb := Lib.hid (HDa.out.setY hkb hxb)
                          have HOb := Lib.hid (own_keeps HOa.out hkb (by omega))
                          clear hxb hkb HAD
                          go_wp2_with fail
                          exact ⟨⟨p + 1, k, 0, Y + 1, xs, by go_num, by omega, by omega, HF2.out, HOb.out, HXLE.out, HDb.out, by omega, by omega⟩, by simp [intOf]; omega⟩
                        · have hgc : S[p].toNat = 98 := hgc
                          go_wp2_with fail
                          refine (HDG.out _).mono ?_
                          rintro e' wr ⟨rfl, hWd⟩
                          subst hWd
                          clear HDG
                          have HF2 := Lib.hid (show FIN = scanG n' m' k (l.drop (p + 1)) (X + 1) Y xs by rw [HF.out, scan_dead HSTP.out])
                          have HNI := Lib.hid (newInt_any 1 wr (by omega))
                          go_wp2_with fail
                          refine HNI.out.mono ?_
                          rintro e' Wa ⟨rfl, hqa, hya⟩
                          have hds := HDS.out.grow hya
                          have HAD := Lib.hid (bigAdd_any px px wr.heap.size X 1 Wa hds.x.blk hds.x hqa (by omega))
                          have HOa := Lib.hid (own_below HOX.out hya)
                          have HDa := Lib.hid hds
                          clear hds hqa hya HNI
                          go_wp2_with fail
                          refine HAD.out.mono ?_
                          rintro e' Wb ⟨rfl, hxb, hkb⟩
                          have HDb := Lib.hid (HDa.out.setX hkb hxb)
                          have HOb := Lib.hid (own_keeps HOa.out hkb (by have := HDa.out.hxy; omega))
                          clear hxb hkb HAD
                          go_wp2_with fail
                          exact ⟨⟨p + 1, k, X + 1, Y, xs, by go_num, by omega, by omega, HF2.out, HOb.out, HXLE.out, HDb.out, by omega, by omega⟩, by simp [intOf]; omega⟩
                        · have hgc : S[p].toNat = 111 := hgc
                          go_wp2_with fail
                          refine (HDG.out _).mono ?_
                          rintro e' wr ⟨rfl, hWd⟩
                          subst hWd
                          clear HDG
                          have hfin : FIN = if m' ≤ Y ∨ n' < X + 1 then ([], 3) else if 4096 < xs.length + 1 then ([], 5) else scanG n' m' k (l.drop (p + 1)) (X + 1) Y (xs ++ rowF X Y 1) := by rw [HF.out, scan_live HSTP.out]
                          have HFI := Lib.hid hfin
                          have HNI := Lib.hid (newInt_any 1)
                          have HDS0 := Lib.hid HDS.out
                          clear hfin
                          go_wp2_with fail
                          obtain ⟨q0, hq0⟩ : ∃ q, q = wr.heap.size := ⟨_, rfl⟩
                          have hq : py < q0 := by have := HDS0.out.y.lt; omega
                          have hor : (Value.slice va xl vc).ownBlock ≠ some q0 := fun e => by have := (HOX.out.lt q0 e).2; omega
                          obtain ⟨W1, hW1⟩ : ∃ W1, W1 = wr.alloc (.cells #[.bool false, .slice none 0 0] 97) := ⟨_, rfl⟩
                          have hba : Below wr.heap.size wr W1 := by rw [hW1]; exact (Below.refl _ _).alloc (Nat.le_refl _) _
                          have hbq : BigBlk W1 q0 := by rw [hW1, hq0]; exact ⟨false, none, 0, 0, blk_last wr _ rfl⟩
                          rw [← hW1, ← hq0]
                          have HDa := Lib.hid (HDS0.out.grow hba)
                          have HOa := Lib.hid (own_below HOX.out hba)
                          have HBQ := Lib.hid hbq
                          have HOR := Lib.hid hor
                          clear hq0 hW1 hba hbq hor
                          refine (HNI.out W1 (by omega)).mono ?_
                          rintro e' Wa ⟨rfl, hqa, hya⟩
                          have HDb := Lib.hid (HDa.out.grow hya)
                          have HOb := Lib.hid (own_below HOa.out hya)
                          have HXQ := Lib.hid (HBQ.out.below hya)
                          have HAD := Lib.hid (bigAdd_any q0 px W1.heap.size X 1 Wa HXQ.out HDb.out.x hqa (by omega))
                          clear hqa hya HNI HBQ
                          go_wp2_with fail
                          refine HAD.out.mono ?_
                          rintro e' Wb ⟨rfl, hxb, hkb⟩
                          have HDc := Lib.hid (HDb.out.aside hkb HXQ.out hq)
                          have HOc := Lib.hid (own_asides HOb.out hkb HOR.out)
                          have HQ := Lib.hid hxb
                          have HN2 := Lib.hid (newInt_any m' Wb (by omega))
                          clear hxb hkb HAD HXQ HDa HDb HOa HOb HOR
                          go_wp2_with fail
                          refine HN2.out.mono ?_
                          rintro e' Wc ⟨rfl, hqc, hyc⟩
                          have HDd := Lib.hid (HDc.out.grow hyc)
                          have HOd := Lib.hid (own_below HOc.out hyc)
                          have HQd := Lib.hid (HQ.out.below hyc)
                          have hc1 := bigCmp_any py Wb.heap.size Y m' Wc HDd.out.y hqc (by omega) (by omega)
                          clear hqc hyc HN2
                          by_cases g1 : m' ≤ Y
                          · obtain ⟨r, hr⟩ : ∃ r, r = cmpN Y m' := ⟨_, rfl⟩
                            have hr0 : 0 ≤ r := by rw [hr, cmpN]; split <;> (try split) <;> omega
                            rw [← hr] at hc1
                            have HC1 := Lib.hid hc1
                            have tr : decide (0 ≤ r) = true := decide_eq_true hr0
                            have HD2 := Lib.hid (HD.out.trans (show _ = (([], (0, 0)), (3 : Int)) by rw [show FIN = ([], 3) by rw [HFI.out, if_pos (.inl g1)]]; rfl))
                            clear hr hc1
                            go_wp2_with fail
                            refine HC1.out.mono ?_
                            rintro e' Wd ⟨rfl, hyd⟩
                            have HDe := Lib.hid (HDd.out.grow hyd)
                            clear hyd HC1
                            have hbB := (HDe.out).b
                            clear z0 z1 f0 f1 p0 p1 HBF
                            have z0 : Wd.cell? ⟨B, 0, none⟩ = some (.int .i64 0) := Joins.cell_of_block hbB 0
                            have z1 : Wd.cell? ⟨B, 1, none⟩ = some (.int .i64 0) := Joins.cell_of_block hbB 1
                            have f0 : Wd.frozen? ⟨B, 0, none⟩ = false := Joins.unfrozen_of_block hbB 0
                            have f1 : Wd.frozen? ⟨B, 1, none⟩ = false := Joins.unfrozen_of_block hbB 1
                            obtain ⟨p0, p1⟩ := box_store (W := Wd) hbB (.int .i64 0) (.int .i64 0)
                            have HBF := Lib.hid (((HDe.out).below.setCell (p := ⟨B, 0, none⟩) hBw (.int .i64 0)).setCell (p := ⟨B, 1, none⟩) hBw (.int .i64 0))
                            clear hbB
                            go_wp2_with fail
                            refine bodyPost_ret (v := .tuple #[.slice none 0 0, .agg #[.int .i64 0, .int .i64 0], .int .i64 3]) (by simp [results, Try.results12, go_sem, p0, p1]) rfl (Decoded.no HD2.out HBF.out)
                          · rw [cmpN_less (by omega)] at hc1
                            have HC1 := Lib.hid hc1
                            clear hc1
                            go_wp2_with fail
                            refine HC1.out.mono ?_
                            rintro e' Wd ⟨rfl, hyd⟩
                            have HDe := Lib.hid (HDd.out.grow hyd)
                            have HOe := Lib.hid (own_below HOd.out hyd)
                            have HQe := Lib.hid (HQd.out.below hyd)
                            have HN3 := Lib.hid (newInt_any n' Wd (by omega))
                            clear hyd HC1
                            go_wp2_with fail
                            refine HN3.out.mono ?_
                            rintro e' We ⟨rfl, hqe, hye⟩
                            have HDf := Lib.hid (HDe.out.grow hye)
                            have HOf := Lib.hid (own_below HOe.out hye)
                            have hc2 := bigCmp_any q0 Wd.heap.size (X + 1) n' We (HQe.out.below hye) hqe (by omega) (by omega)
                            clear hqe hye HN3
                            by_cases g2 : n' < X + 1
                            · rw [cmpN_more g2] at hc2
                              have HC2 := Lib.hid hc2
                              have HD2 := Lib.hid (HD.out.trans (show _ = (([], (0, 0)), (3 : Int)) by rw [show FIN = ([], 3) by rw [HFI.out, if_pos (.inr g2)]]; rfl))
                              clear hc2
                              go_wp2_with fail
                              refine HC2.out.mono ?_
                              rintro e' Wf ⟨rfl, hyf⟩
                              have HDg := Lib.hid (HDf.out.grow hyf)
                              clear hyf HC2
                              have hbB := (HDg.out).b
                              clear z0 z1 f0 f1 p0 p1 HBF
                              have z0 : Wf.cell? ⟨B, 0, none⟩ = some (.int .i64 0) := Joins.cell_of_block hbB 0
                              have z1 : Wf.cell? ⟨B, 1, none⟩ = some (.int .i64 0) := Joins.cell_of_block hbB 1
                              have f0 : Wf.frozen? ⟨B, 0, none⟩ = false := Joins.unfrozen_of_block hbB 0
                              have f1 : Wf.frozen? ⟨B, 1, none⟩ = false := Joins.unfrozen_of_block hbB 1
                              obtain ⟨p0, p1⟩ := box_store (W := Wf) hbB (.int .i64 0) (.int .i64 0)
                              have HBF := Lib.hid (((HDg.out).below.setCell (p := ⟨B, 0, none⟩) hBw (.int .i64 0)).setCell (p := ⟨B, 1, none⟩) hBw (.int .i64 0))
                              clear hbB
                              go_wp2_with fail
                              refine bodyPost_ret (v := .tuple #[.slice none 0 0, .agg #[.int .i64 0, .int .i64 0], .int .i64 3]) (by simp [results, Try.results12, go_sem, p0, p1]) rfl (Decoded.no HD2.out HBF.out)
                            · obtain ⟨r, hr⟩ : ∃ r, r = cmpN (X + 1) n' := ⟨_, rfl⟩
                              have hr0 : r ≤ 0 := by rw [hr, cmpN]; split <;> (try split) <;> omega
                              rw [← hr] at hc2
                              have HC2 := Lib.hid hc2
                              have tr : decide (0 < r) = false := decide_eq_false (by omega)
                              have hf2 := HFI.out
                              rw [if_neg (by omega), ← HXL.out] at hf2
                              have HF3 := Lib.hid hf2
                              clear hr hr0 hc2 hf2 HFI
                              by_cases g3 : 4096 < xl + 1
                              · have t3 : decide ((4096 : Int) < (xl : Int) + 1) = true := decide_eq_true (by omega)
                                have t3' : decide (4096 < xl + 1) = true := decide_eq_true g3
                                have HD2 := Lib.hid (HD.out.trans (show _ = (([], (0, 0)), (5 : Int)) by rw [show FIN = ([], 5) by rw [HF3.out, if_pos g3]]; rfl))
                                go_wp2_with fail
                                refine HC2.out.mono ?_
                                rintro e' Wf ⟨rfl, hyf⟩
                                have HDg := Lib.hid (HDf.out.grow hyf)
                                clear hyf HC2
                                have hbB := (HDg.out).b
                                clear z0 z1 f0 f1 p0 p1 HBF
                                have z0 : Wf.cell? ⟨B, 0, none⟩ = some (.int .i64 0) := Joins.cell_of_block hbB 0
                                have z1 : Wf.cell? ⟨B, 1, none⟩ = some (.int .i64 0) := Joins.cell_of_block hbB 1
                                have f0 : Wf.frozen? ⟨B, 0, none⟩ = false := Joins.unfrozen_of_block hbB 0
                                have f1 : Wf.frozen? ⟨B, 1, none⟩ = false := Joins.unfrozen_of_block hbB 1
                                obtain ⟨p0, p1⟩ := box_store (W := Wf) hbB (.int .i64 0) (.int .i64 0)
                                have HBF := Lib.hid (((HDg.out).below.setCell (p := ⟨B, 0, none⟩) hBw (.int .i64 0)).setCell (p := ⟨B, 1, none⟩) hBw (.int .i64 0))
                                clear hbB
                                go_wp2_with fail
                                refine bodyPost_ret (v := .tuple #[.slice none 0 0, .agg #[.int .i64 0, .int .i64 0], .int .i64 5]) (by simp [results, Try.results12, go_sem, p0, p1]) rfl (Decoded.no HD2.out HBF.out)
                              · have t3 : decide ((4096 : Int) < (xl : Int) + 1) = false := decide_eq_false (by omega)
                                have t3' : decide (4096 < xl + 1) = false := decide_eq_false g3
                                have HF4 := Lib.hid (show FIN = scanG n' m' k (l.drop (p + 1)) (X + 1) Y (xs ++ rowF X Y 1) by rw [HF3.out, if_neg g3])
                                clear HF HF3
                                go_wp2_with fail
                                refine HC2.out.mono ?_
                                rintro e' Wf ⟨rfl, hyf⟩
                                have HDg := Lib.hid (HDf.out.grow hyf)
                                have HOg := Lib.hid (own_below HOf.out hyf)
                                clear hyf HC2 HDf HOf HDe HOe HDd HOd HDc HOc HQ HQd HQe
                                clear z0 z1 f0 f1 p0 p1 HBF HDS HDS0 HO HOX
                                go_wp2_with fail
                                obtain ⟨V, hV⟩ : ∃ V, V = Wf := ⟨_, rfl⟩
                                subst hV
                                go_loopw [11, 14] (fun out i wr => ∃ (j k2 : Nat), j + k2 = 1 ∧ i = .int .i64 k2 ∧ wr.ownsRow (py + 1) 72 2 out (xl + j) ((xs ++ rowF X Y j).flatMap encCell) ∧ DecSt w wr B R px py r1 r2 (X + j) Y) (fun _ i _ => (intOf i).toNat)
                                case atStart => exact ⟨0, 1, by omega, by first | rfl | go_num, by have h := HOg.out; rw [← HXL.out] at h; simpa [rowF] using h, HDg.out⟩
                                case round =>
                                  clear HOg HDg
                                  obtain ⟨j, k2, hjk, rfl, hown, hst⟩ := hrel
                                  obtain ⟨va2, vc2, rfl⟩ := own_form hown
                                  by_cases hk0 : 0 < k2
                                  · obtain ⟨k3, rfl⟩ : ∃ k3, k2 = k3 + 1 := ⟨k2 - 1, by omega⟩
                                    have tk : decide (0 < k3 + 1) = true := decide_eq_true (by omega)
                                    have tk' : decide ((0 : Int) < (k3 : Int) + 1) = true := decide_eq_true (by omega)
                                    have hpyl : py < wr.heap.size := hst.y.lt
                                    obtain ⟨x2, hx2⟩ : ∃ x2, x2 = X + j := ⟨_, rfl⟩
                                    rw [← hx2] at hst
                                    have hx2l : x2 < 9000000000000000000 := by omega
                                    have hyl : Y < 9000000000000000000 := by omega
                                    have HI1 := Lib.hid (int64_any px x2 wr hst.x (by omega))
                                    have HI2 := Lib.hid (int64_any py Y wr hst.y (by omega))
                                    have HS := Lib.hid hst
                                    have HOW := Lib.hid hown
                                    have HXX := Lib.hid hx2
                                    have HROW := Lib.hid (rowF_succ X Y j)
                                    obtain ⟨fl, hfl⟩ : ∃ fl, fl = (xs ++ rowF X Y j).flatMap encCell := ⟨_, rfl⟩
                                    rw [← hfl] at hown
                                    have HFL := Lib.hid hfl
                                    have HNI := Lib.hid (newInt_any 1)
                                    obtain ⟨i0, hi, hz0, hz1, hz2⟩ := info_parts infoCell
                                    clear hst hx2 hfl
                                    go_wp2_with fail
                                    refine HI1.out.mono ?_
                                    rintro e' Wg ⟨rfl, hW⟩
                                    rw [hW]
                                    clear hW
                                    go_wp2_with fail
                                    refine HI2.out.mono ?_
                                    rintro e' Wh ⟨rfl, hW⟩
                                    rw [hW]
                                    clear hW HI1 HI2
                                    go_wp2_with (at_builtin; refine wpList_append_lies _ rfl _ _ 22 rfl (py + 1) 72 i0 _ 2 16 Try.underlying22 hi hz0 hz1 hz2 rfl (by omega) (.slice va2 (xl + j) vc2) (xl + j) fl rfl (hown.alloc _) ⟨wr.heap.size, 0, none⟩ 1 1 [.int .i64 x2, .int .i64 Y] rfl rfl (news_alloc _ _ _ (by simp)) (by simp [Value.oneCell']) (by omega) (by unfold maxLen; omega) (by omega) (by simp; omega) (wr.heap.size + 1) (by simp) ?_; intro g cap1 w7 hown1 hgrow1 hat1 hlt1)
                                    have hs7 : DecSt w w7 B R px py r1 r2 x2 Y := (HS.out.grow ((Below.refl _ _).alloc (Nat.le_refl _) _)).row hgrow1 (hown.alloc _)
                                    have he : fl ++ [.int .i64 x2, .int .i64 Y] = (xs ++ rowF X Y (j + 1)).flatMap encCell := by
                                      rw [HROW.out, ← List.append_assoc, List.flatMap_append, ← HFL.out]
                                      simp [encCell, HXX.out]
                                    rw [he] at hown1
                                    have HO7 := Lib.hid hown1
                                    have HS7 := Lib.hid hs7
                                    clear hgrow1 hat1 hown hown1 he hs7 HS HOW
                                    refine (HNI.out w7 (by omega)).mono ?_
                                    rintro e' Wp ⟨rfl, hqp, hyp⟩
                                    have HS8 := Lib.hid (HS7.out.grow hyp)
                                    have HO8 := Lib.hid (own_below HO7.out hyp)
                                    have HAD := Lib.hid (bigAdd_any px px w7.heap.size x2 1 Wp HS8.out.x.blk HS8.out.x hqp (by omega))
                                    clear hqp hyp HNI HS7 HO7
                                    go_wp2_with fail
                                    refine HAD.out.mono ?_
                                    rintro e' Wq ⟨rfl, hxq, hkq⟩
                                    have HS9 := Lib.hid (HS8.out.setX hkq hxq)
                                    have HO9 := Lib.hid (own_keeps HO8.out hkq (by have := HS8.out.hxy; omega))
                                    clear hxq hkq HAD HS8 HO8
                                    go_wp2_with fail
                                    exact ⟨⟨j + 1, k3, by omega, by go_num, by simpa [Nat.add_assoc] using HO9.out, by rw [show X + (j + 1) = x2 + 1 by have := HXX.out; omega]; exact HS9.out⟩, by simp [intOf]⟩
                                  · obtain rfl : k2 = 0 := by omega
                                    obtain rfl : 1 = j := by omega
                                    have HS := Lib.hid hst
                                    have HOW := Lib.hid hown
                                    have hlen : (xs ++ rowF X Y 1).length = xl + 1 := by rw [List.length_append, rowF_length, HXL.out]
                                    have HLEN := Lib.hid hlen
                                    clear hst hown hlen
                                    go_wp2_with fail
                                    exact ⟨⟨p + 1, k, X + 1, Y, xs ++ rowF X Y 1, by go_num, by omega, by omega, HF4.out, by rw [HLEN.out]; exact HOW.out, by rw [HLEN.out]; omega, HS.out, by omega, by omega⟩, by simp [intOf]; omega⟩
                        · obtain ⟨hrange, b1, b2, b3, b4, b5, b6, b7, b8⟩ := hbad
                          obtain ⟨y, hy⟩ : ∃ y, c.toNat = y := ⟨_, rfl⟩
                          rw [hy] at hgc hrange b1 b2 b3 b4 b5 b6 b7 b8 HDG
                          have hylt : y < 256 := by rw [← hy]; exact UInt8.toNat_lt _
                          have g0 : ((y : Int) == 32) = false := by simp <;> omega
                          have g1 : ((y : Int) == 9) = false := by simp <;> omega
                          have g2 : ((y : Int) == 10) = false := by simp <;> omega
                          have g3 : ((y : Int) == 13) = false := by simp <;> omega
                          have g4 : ((y : Int) == 33) = false := by simp <;> omega
                          have g5 : ((y : Int) == 36) = false := by simp <;> omega
                          have g6 : ((y : Int) == 98) = false := by simp <;> omega
                          have g7 : ((y : Int) == 111) = false := by simp <;> omega
                          go_wp2_with fail
                          refine (HDG.out _).mono ?_
                          rintro e' wr ⟨rfl, hWd⟩
                          subst hWd
                          clear HDG
                          have HD2 := Lib.hid (HD.out.trans (show _ = (([], (0, 0)), (2 : Int)) by
                            rw [show FIN = ([], 2) by
                              rw [HF.out, scan_bad HSTP.out]
                              · rintro (h | h | h | h) <;> (rw [h] at hy; simp at hy; omega)
                              all_goals (intro h; rw [h] at hy; simp at hy; omega)]
                            rfl))
                          clear hy
                          go_wp2_with fail
                          refine bodyPost_ret (v := .tuple #[.slice none 0 0, .agg #[.int .i64 0, .int .i64 0], .int .i64 2]) (by simp [results, Try.results12, go_sem, p0, p1]) rfl (Decoded.no HD2.out HBF.out)
                      · obtain ⟨y, hy⟩ : ∃ y, c.toNat = y := ⟨_, rfl⟩
                        have HDG := Lib.hid (digit_any c)
                        have hstep := step_digit (r := l.drop (p + 1)) hd
                        rw [← hdrop] at hstep
                        rw [hd, hy] at HDG
                        rw [hy] at hgc
                        have hpl := fun W => plain_any l p W hl (by have := HN.out; omega)
                        rw [← HS.out] at hpl
                        clear hd hdrop hc hy HO
                        cases hok : okN (l.drop p)
                        · have hpf : plainF l p = (0, -1) := by rw [plainF, hok]; rfl
                          rw [hpf] at hpl
                          have HPL := Lib.hid hpl
                          have HNO : Aside (stepF (l.drop p) = none) := by show _ = _; rw [hstep, hok]; rfl
                          clear hpf hpl hstep hok
                          go_wp2_with fail
                          refine (HDG.out _).mono ?_
                          rintro e' wr ⟨rfl, hWd⟩
                          subst hWd
                          clear HDG
                          go_wp2_with fail
                          refine (HPL.out _).mono ?_
                          rintro e' wr ⟨rfl, hWp⟩
                          replace HDS := Lib.hid (HDS.out.grow hWp)
                          replace HOX := Lib.hid (own_below HOX.out hWp)
                          have HO := HOX
                          clear hWp HPL
                          have hbB := HDS.out.b
                          clear z0 z1 f0 f1 p0 p1 HBF
                          have z0 : wr.cell? ⟨B, 0, none⟩ = some (.int .i64 0) := Joins.cell_of_block hbB 0
                          have z1 : wr.cell? ⟨B, 1, none⟩ = some (.int .i64 0) := Joins.cell_of_block hbB 1
                          have f0 : wr.frozen? ⟨B, 0, none⟩ = false := Joins.unfrozen_of_block hbB 0
                          have f1 : wr.frozen? ⟨B, 1, none⟩ = false := Joins.unfrozen_of_block hbB 1
                          obtain ⟨p0, p1⟩ := box_store (W := wr) hbB (.int .i64 0) (.int .i64 0)
                          have HBF := Lib.hid ((HDS.out.below.setCell (p := ⟨B, 0, none⟩) hBw (.int .i64 0)).setCell (p := ⟨B, 1, none⟩) hBw (.int .i64 0))
                          clear hbB
                          have HD2 := Lib.hid (HD.out.trans (show _ = (([], (0, 0)), (2 : Int)) by rw [show FIN = ([], 2) by rw [HF.out, scan_none HNO.out]]; rfl))
                          go_wp2_with fail
                          refine bodyPost_ret (v := .tuple #[.slice none 0 0, .agg #[.int .i64 0, .int .i64 0], .int .i64 2]) (by simp [results, Try.results12, go_sem, p0, p1]) rfl (Decoded.no HD2.out HBF.out)
                        · have hpf : plainF l p = (valN (l.drop p), ((p + digs (l.drop p) : Nat) : Int)) := by rw [plainF, if_pos hok]; rfl
                          rw [hpf] at hpl
                          have hvlt := valN_lt (l.drop p) (okN_iff.1 hok).2.1
                          have hd0 := (okN_iff.1 hok).1
                          have hdl := digs_le (l.drop p)
                          rw [List.length_drop] at hdl
                          have haf : aftN (l.drop p) = l.drop (p + digs (l.drop p)) := by rw [aftN, List.drop_drop]
                          rw [hok, haf] at hstep
                          obtain ⟨nn, hnn⟩ : ∃ nn, nn = valN (l.drop p) := ⟨_, rfl⟩
                          obtain ⟨p2, hp2⟩ : ∃ q, q = p + digs (l.drop p) := ⟨_, rfl⟩
                          rw [← hnn] at hpl hvlt hstep
                          rw [← hp2] at hpl hstep
                          have hpp : p < p2 := by omega
                          have hpn2 : p2 ≤ n := by have := HN.out; omega
                          have HPL := Lib.hid (show ∀ W, Calls Try.prog 56 #[.string S, .int .i64 p] W fun e w' => e = .returned (.tuple #[.int .i64 nn, .int .i64 p2]) ∧ Below W.heap.size W w' from hpl)
                          have HSTEP := Lib.hid hstep
                          have tneg : decide ((p2 : Int) < 0) = false := decide_eq_false (by omega)
                          clear hpf hpl hd0 hdl haf hnn hp2 hstep hok
                          by_cases h0 : nn = 0
                          · subst h0
                            have HNO : Aside (stepF (l.drop p) = none) := by show _ = _; rw [HSTEP.out]; rfl
                            go_wp2_with fail
                            refine (HDG.out _).mono ?_
                            rintro e' wr ⟨rfl, hWd⟩
                            subst hWd
                            clear HDG
                            go_wp2_with fail
                            refine (HPL.out _).mono ?_
                            rintro e' wr ⟨rfl, hWp⟩
                            replace HDS := Lib.hid (HDS.out.grow hWp)
                            replace HOX := Lib.hid (own_below HOX.out hWp)
                            have HO := HOX
                            clear hWp HPL
                            have hbB := HDS.out.b
                            clear z0 z1 f0 f1 p0 p1 HBF
                            have z0 : wr.cell? ⟨B, 0, none⟩ = some (.int .i64 0) := Joins.cell_of_block hbB 0
                            have z1 : wr.cell? ⟨B, 1, none⟩ = some (.int .i64 0) := Joins.cell_of_block hbB 1
                            have f0 : wr.frozen? ⟨B, 0, none⟩ = false := Joins.unfrozen_of_block hbB 0
                            have f1 : wr.frozen? ⟨B, 1, none⟩ = false := Joins.unfrozen_of_block hbB 1
                            obtain ⟨p0, p1⟩ := box_store (W := wr) hbB (.int .i64 0) (.int .i64 0)
                            have HBF := Lib.hid ((HDS.out.below.setCell (p := ⟨B, 0, none⟩) hBw (.int .i64 0)).setCell (p := ⟨B, 1, none⟩) hBw (.int .i64 0))
                            clear hbB
                            have HD2 := Lib.hid (HD.out.trans (show _ = (([], (0, 0)), (2 : Int)) by rw [show FIN = ([], 2) by rw [HF.out, scan_none HNO.out]]; rfl))
                            go_wp2_with fail
                            refine bodyPost_ret (v := .tuple #[.slice none 0 0, .agg #[.int .i64 0, .int .i64 0], .int .i64 2]) (by simp [results, Try.results12, go_sem, p0, p1]) rfl (Decoded.no HD2.out HBF.out)
                          · have tn0 : ((nn : Int) == 0) = false := by simp; omega
                            by_cases hlen2 : p2 < n
                            · obtain ⟨d, hd2⟩ := HGET.out p2 hlen2
                              have hp2S : p2 < S.size := by omega
                              have hgd := HAT.out p2 d hd2 hp2S
                              have hdrop2 : l.drop p2 = d :: l.drop (p2 + 1) := by
                                have h := List.getElem?_eq_some_iff.1 hd2
                                rw [List.drop_eq_getElem_cons h.1, h.2]
                              have hstep := HSTEP.out
                              rw [hdrop2] at hstep
                              have tlen : decide ((n : Int) ≤ (p2 : Int)) = false := decide_eq_false (by omega)
                              have tlen' : decide (n ≤ p2) = false := decide_eq_false (by omega)
                              clear hd2 hdrop2 HSTEP
                              by_cases h36 : d.toNat = 36
                              · obtain rfl : d = 36 := byte_is h36 _ rfl
                                have hgd : S[p2].toNat = 36 := hgd
                                have HSTP : Aside (stepF (l.drop p) = some (nn, 36, l.drop (p2 + 1))) := by show _ = _; rw [hstep, if_pos ⟨rfl, h0⟩]; rfl
                                clear hstep h36
                                go_wp2_with fail
                                refine (HDG.out _).mono ?_
                                rintro e' wr ⟨rfl, hWd⟩
                                subst hWd
                                clear HDG
                                go_wp2_with fail
                                refine (HPL.out _).mono ?_
                                rintro e' wr ⟨rfl, hWp⟩
                                replace HDS := Lib.hid (HDS.out.grow hWp)
                                replace HOX := Lib.hid (own_below HOX.out hWp)
                                have HO := HOX
                                clear hWp HPL
                                have hbB := HDS.out.b
                                clear z0 z1 f0 f1 p0 p1 HBF
                                have z0 : wr.cell? ⟨B, 0, none⟩ = some (.int .i64 0) := Joins.cell_of_block hbB 0
                                have z1 : wr.cell? ⟨B, 1, none⟩ = some (.int .i64 0) := Joins.cell_of_block hbB 1
                                have f0 : wr.frozen? ⟨B, 0, none⟩ = false := Joins.unfrozen_of_block hbB 0
                                have f1 : wr.frozen? ⟨B, 1, none⟩ = false := Joins.unfrozen_of_block hbB 1
                                obtain ⟨p0, p1⟩ := box_store (W := wr) hbB (.int .i64 0) (.int .i64 0)
                                have HBF := Lib.hid ((HDS.out.below.setCell (p := ⟨B, 0, none⟩) hBw (.int .i64 0)).setCell (p := ⟨B, 1, none⟩) hBw (.int .i64 0))
                                clear hbB
                                have HF2 := Lib.hid (show FIN = scanG n' m' k (l.drop (p2 + 1)) 0 (Y + nn) xs by rw [HF.out, scan_line HSTP.out])
                                have HSI := Lib.hid (setInt64_any px 0 wr HDS.out.x.blk (by omega))
                                go_wp2_with fail
                                refine HSI.out.mono ?_
                                rintro e' Wz ⟨rfl, hxz, hkz⟩
                                have HDz := Lib.hid (HDS.out.setX hkz hxz)
                                have HOz := Lib.hid (own_keeps HOX.out hkz (by have := HDS.out.hxy; omega))
                                have HNI := Lib.hid (newInt_any nn Wz (by omega))
                                clear hxz hkz HSI
                                go_wp2_with fail
                                refine HNI.out.mono ?_
                                rintro e' Wa ⟨rfl, hqa, hya⟩
                                have hds := HDz.out.grow hya
                                have HAD := Lib.hid (bigAdd_any py py Wz.heap.size Y nn Wa hds.y.blk hds.y hqa (by omega))
                                have HOa := Lib.hid (own_below HOz.out hya)
                                have HDa := Lib.hid hds
                                clear hds hqa hya HNI
                                go_wp2_with fail
                                refine HAD.out.mono ?_
                                rintro e' Wb ⟨rfl, hxb, hkb⟩
                                have HDb := Lib.hid (HDa.out.setY hkb hxb)
                                have HOb := Lib.hid (own_keeps HOa.out hkb (by omega))
                                clear hxb hkb HAD
                                go_wp2_with fail
                                exact ⟨⟨p2 + 1, k, 0, Y + nn, xs, by go_num, by omega, by omega, HF2.out, HOb.out, HXLE.out, HDb.out, by omega, by omega⟩, by simp [intOf]; omega⟩
                              by_cases h98 : d.toNat = 98
                              · obtain rfl : d = 98 := byte_is h98 _ rfl
                                have hgd : S[p2].toNat = 98 := hgd
                                have HSTP : Aside (stepF (l.drop p) = some (nn, 98, l.drop (p2 + 1))) := by show _ = _; rw [hstep, if_pos ⟨rfl, h0⟩]; rfl
                                clear hstep h98
                                go_wp2_with fail
                                refine (HDG.out _).mono ?_
                                rintro e' wr ⟨rfl, hWd⟩
                                subst hWd
                                clear HDG
                                go_wp2_with fail
                                refine (HPL.out _).mono ?_
                                rintro e' wr ⟨rfl, hWp⟩
                                replace HDS := Lib.hid (HDS.out.grow hWp)
                                replace HOX := Lib.hid (own_below HOX.out hWp)
                                have HO := HOX
                                clear hWp HPL
                                have hbB := HDS.out.b
                                clear z0 z1 f0 f1 p0 p1 HBF
                                have z0 : wr.cell? ⟨B, 0, none⟩ = some (.int .i64 0) := Joins.cell_of_block hbB 0
                                have z1 : wr.cell? ⟨B, 1, none⟩ = some (.int .i64 0) := Joins.cell_of_block hbB 1
                                have f0 : wr.frozen? ⟨B, 0, none⟩ = false := Joins.unfrozen_of_block hbB 0
                                have f1 : wr.frozen? ⟨B, 1, none⟩ = false := Joins.unfrozen_of_block hbB 1
                                obtain ⟨p0, p1⟩ := box_store (W := wr) hbB (.int .i64 0) (.int .i64 0)
                                have HBF := Lib.hid ((HDS.out.below.setCell (p := ⟨B, 0, none⟩) hBw (.int .i64 0)).setCell (p := ⟨B, 1, none⟩) hBw (.int .i64 0))
                                clear hbB
                                have HF2 := Lib.hid (show FIN = scanG n' m' k (l.drop (p2 + 1)) (X + nn) Y xs by rw [HF.out, scan_dead HSTP.out])
                                have HNI := Lib.hid (newInt_any nn wr (by omega))
                                go_wp2_with fail
                                refine HNI.out.mono ?_
                                rintro e' Wa ⟨rfl, hqa, hya⟩
                                have hds := HDS.out.grow hya
                                have HAD := Lib.hid (bigAdd_any px px wr.heap.size X nn Wa hds.x.blk hds.x hqa (by omega))
                                have HOa := Lib.hid (own_below HOX.out hya)
                                have HDa := Lib.hid hds
                                clear hds hqa hya HNI
                                go_wp2_with fail
                                refine HAD.out.mono ?_
                                rintro e' Wb ⟨rfl, hxb, hkb⟩
                                have HDb := Lib.hid (HDa.out.setX hkb hxb)
                                have HOb := Lib.hid (own_keeps HOa.out hkb (by have := HDa.out.hxy; omega))
                                clear hxb hkb HAD
                                go_wp2_with fail
                                exact ⟨⟨p2 + 1, k, X + nn, Y, xs, by go_num, by omega, by omega, HF2.out, HOb.out, HXLE.out, HDb.out, by omega, by omega⟩, by simp [intOf]; omega⟩
                              by_cases h111 : d.toNat = 111
                              · obtain rfl : d = 111 := byte_is h111 _ rfl
                                have hgd : S[p2].toNat = 111 := hgd
                                have HSTP : Aside (stepF (l.drop p) = some (nn, 111, l.drop (p2 + 1))) := by show _ = _; rw [hstep, if_pos ⟨rfl, h0⟩]; rfl
                                clear hstep h111
                                go_wp2_with fail
                                refine (HDG.out _).mono ?_
                                rintro e' wr ⟨rfl, hWd⟩
                                subst hWd
                                clear HDG
                                go_wp2_with fail
                                refine (HPL.out _).mono ?_
                                rintro e' wr ⟨rfl, hWp⟩
                                replace HDS := Lib.hid (HDS.out.grow hWp)
                                replace HOX := Lib.hid (own_below HOX.out hWp)
                                have HO := HOX
                                clear hWp HPL
                                have hbB := HDS.out.b
                                clear z0 z1 f0 f1 p0 p1 HBF
                                have z0 : wr.cell? ⟨B, 0, none⟩ = some (.int .i64 0) := Joins.cell_of_block hbB 0
                                have z1 : wr.cell? ⟨B, 1, none⟩ = some (.int .i64 0) := Joins.cell_of_block hbB 1
                                have f0 : wr.frozen? ⟨B, 0, none⟩ = false := Joins.unfrozen_of_block hbB 0
                                have f1 : wr.frozen? ⟨B, 1, none⟩ = false := Joins.unfrozen_of_block hbB 1
                                obtain ⟨p0, p1⟩ := box_store (W := wr) hbB (.int .i64 0) (.int .i64 0)
                                have HBF := Lib.hid ((HDS.out.below.setCell (p := ⟨B, 0, none⟩) hBw (.int .i64 0)).setCell (p := ⟨B, 1, none⟩) hBw (.int .i64 0))
                                clear hbB
                                have hfin : FIN = if m' ≤ Y ∨ n' < X + nn then ([], 3) else if 4096 < xs.length + nn then ([], 5) else scanG n' m' k (l.drop (p2 + 1)) (X + nn) Y (xs ++ rowF X Y nn) := by rw [HF.out, scan_live HSTP.out]
                                have HFI := Lib.hid hfin
                                have HNI := Lib.hid (newInt_any nn)
                                have HDS0 := Lib.hid HDS.out
                                clear hfin
                                go_wp2_with fail
                                obtain ⟨q0, hq0⟩ : ∃ q, q = wr.heap.size := ⟨_, rfl⟩
                                have hq : py < q0 := by have := HDS0.out.y.lt; omega
                                have hor : (Value.slice va xl vc).ownBlock ≠ some q0 := fun e => by have := (HOX.out.lt q0 e).2; omega
                                obtain ⟨W1, hW1⟩ : ∃ W1, W1 = wr.alloc (.cells #[.bool false, .slice none 0 0] 97) := ⟨_, rfl⟩
                                have hba : Below wr.heap.size wr W1 := by rw [hW1]; exact (Below.refl _ _).alloc (Nat.le_refl _) _
                                have hbq : BigBlk W1 q0 := by rw [hW1, hq0]; exact ⟨false, none, 0, 0, blk_last wr _ rfl⟩
                                rw [← hW1, ← hq0]
                                have HDa := Lib.hid (HDS0.out.grow hba)
                                have HOa := Lib.hid (own_below HOX.out hba)
                                have HBQ := Lib.hid hbq
                                have HOR := Lib.hid hor
                                clear hq0 hW1 hba hbq hor
                                refine (HNI.out W1 (by omega)).mono ?_
                                rintro e' Wa ⟨rfl, hqa, hya⟩
                                have HDb := Lib.hid (HDa.out.grow hya)
                                have HOb := Lib.hid (own_below HOa.out hya)
                                have HXQ := Lib.hid (HBQ.out.below hya)
                                have HAD := Lib.hid (bigAdd_any q0 px W1.heap.size X nn Wa HXQ.out HDb.out.x hqa (by omega))
                                clear hqa hya HNI HBQ
                                go_wp2_with fail
                                refine HAD.out.mono ?_
                                rintro e' Wb ⟨rfl, hxb, hkb⟩
                                have HDc := Lib.hid (HDb.out.aside hkb HXQ.out hq)
                                have HOc := Lib.hid (own_asides HOb.out hkb HOR.out)
                                have HQ := Lib.hid hxb
                                have HN2 := Lib.hid (newInt_any m' Wb (by omega))
                                clear hxb hkb HAD HXQ HDa HDb HOa HOb HOR
                                go_wp2_with fail
                                refine HN2.out.mono ?_
                                rintro e' Wc ⟨rfl, hqc, hyc⟩
                                have HDd := Lib.hid (HDc.out.grow hyc)
                                have HOd := Lib.hid (own_below HOc.out hyc)
                                have HQd := Lib.hid (HQ.out.below hyc)
                                have hc1 := bigCmp_any py Wb.heap.size Y m' Wc HDd.out.y hqc (by omega) (by omega)
                                clear hqc hyc HN2
                                by_cases g1 : m' ≤ Y
                                · obtain ⟨r, hr⟩ : ∃ r, r = cmpN Y m' := ⟨_, rfl⟩
                                  have hr0 : 0 ≤ r := by rw [hr, cmpN]; split <;> (try split) <;> omega
                                  rw [← hr] at hc1
                                  have HC1 := Lib.hid hc1
                                  have tr : decide (0 ≤ r) = true := decide_eq_true hr0
                                  have HD2 := Lib.hid (HD.out.trans (show _ = (([], (0, 0)), (3 : Int)) by rw [show FIN = ([], 3) by rw [HFI.out, if_pos (.inl g1)]]; rfl))
                                  clear hr hc1
                                  go_wp2_with fail
                                  refine HC1.out.mono ?_
                                  rintro e' Wd ⟨rfl, hyd⟩
                                  have HDe := Lib.hid (HDd.out.grow hyd)
                                  clear hyd HC1
                                  have hbB := (HDe.out).b
                                  clear z0 z1 f0 f1 p0 p1 HBF
                                  have z0 : Wd.cell? ⟨B, 0, none⟩ = some (.int .i64 0) := Joins.cell_of_block hbB 0
                                  have z1 : Wd.cell? ⟨B, 1, none⟩ = some (.int .i64 0) := Joins.cell_of_block hbB 1
                                  have f0 : Wd.frozen? ⟨B, 0, none⟩ = false := Joins.unfrozen_of_block hbB 0
                                  have f1 : Wd.frozen? ⟨B, 1, none⟩ = false := Joins.unfrozen_of_block hbB 1
                                  obtain ⟨p0, p1⟩ := box_store (W := Wd) hbB (.int .i64 0) (.int .i64 0)
                                  have HBF := Lib.hid (((HDe.out).below.setCell (p := ⟨B, 0, none⟩) hBw (.int .i64 0)).setCell (p := ⟨B, 1, none⟩) hBw (.int .i64 0))
                                  clear hbB
                                  go_wp2_with fail
                                  refine bodyPost_ret (v := .tuple #[.slice none 0 0, .agg #[.int .i64 0, .int .i64 0], .int .i64 3]) (by simp [results, Try.results12, go_sem, p0, p1]) rfl (Decoded.no HD2.out HBF.out)
                                · rw [cmpN_less (by omega)] at hc1
                                  have HC1 := Lib.hid hc1
                                  clear hc1
                                  go_wp2_with fail
                                  refine HC1.out.mono ?_
                                  rintro e' Wd ⟨rfl, hyd⟩
                                  have HDe := Lib.hid (HDd.out.grow hyd)
                                  have HOe := Lib.hid (own_below HOd.out hyd)
                                  have HQe := Lib.hid (HQd.out.below hyd)
                                  have HN3 := Lib.hid (newInt_any n' Wd (by omega))
                                  clear hyd HC1
                                  go_wp2_with fail
                                  refine HN3.out.mono ?_
                                  rintro e' We ⟨rfl, hqe, hye⟩
                                  have HDf := Lib.hid (HDe.out.grow hye)
                                  have HOf := Lib.hid (own_below HOe.out hye)
                                  have hc2 := bigCmp_any q0 Wd.heap.size (X + nn) n' We (HQe.out.below hye) hqe (by omega) (by omega)
                                  clear hqe hye HN3
                                  by_cases g2 : n' < X + nn
                                  · rw [cmpN_more g2] at hc2
                                    have HC2 := Lib.hid hc2
                                    have HD2 := Lib.hid (HD.out.trans (show _ = (([], (0, 0)), (3 : Int)) by rw [show FIN = ([], 3) by rw [HFI.out, if_pos (.inr g2)]]; rfl))
                                    clear hc2
                                    go_wp2_with fail
                                    refine HC2.out.mono ?_
                                    rintro e' Wf ⟨rfl, hyf⟩
                                    have HDg := Lib.hid (HDf.out.grow hyf)
                                    clear hyf HC2
                                    have hbB := (HDg.out).b
                                    clear z0 z1 f0 f1 p0 p1 HBF
                                    have z0 : Wf.cell? ⟨B, 0, none⟩ = some (.int .i64 0) := Joins.cell_of_block hbB 0
                                    have z1 : Wf.cell? ⟨B, 1, none⟩ = some (.int .i64 0) := Joins.cell_of_block hbB 1
                                    have f0 : Wf.frozen? ⟨B, 0, none⟩ = false := Joins.unfrozen_of_block hbB 0
                                    have f1 : Wf.frozen? ⟨B, 1, none⟩ = false := Joins.unfrozen_of_block hbB 1
                                    obtain ⟨p0, p1⟩ := box_store (W := Wf) hbB (.int .i64 0) (.int .i64 0)
                                    have HBF := Lib.hid (((HDg.out).below.setCell (p := ⟨B, 0, none⟩) hBw (.int .i64 0)).setCell (p := ⟨B, 1, none⟩) hBw (.int .i64 0))
                                    clear hbB
                                    go_wp2_with fail
                                    refine bodyPost_ret (v := .tuple #[.slice none 0 0, .agg #[.int .i64 0, .int .i64 0], .int .i64 3]) (by simp [results, Try.results12, go_sem, p0, p1]) rfl (Decoded.no HD2.out HBF.out)
                                  · obtain ⟨r, hr⟩ : ∃ r, r = cmpN (X + nn) n' := ⟨_, rfl⟩
                                    have hr0 : r ≤ 0 := by rw [hr, cmpN]; split <;> (try split) <;> omega
                                    rw [← hr] at hc2
                                    have HC2 := Lib.hid hc2
                                    have tr : decide (0 < r) = false := decide_eq_false (by omega)
                                    have hf2 := HFI.out
                                    rw [if_neg (by omega), ← HXL.out] at hf2
                                    have HF3 := Lib.hid hf2
                                    clear hr hr0 hc2 hf2 HFI
                                    by_cases g3 : 4096 < xl + nn
                                    · have t3 : decide ((4096 : Int) < (xl : Int) + (nn : Int)) = true := decide_eq_true (by omega)
                                      have t3' : decide (4096 < xl + nn) = true := decide_eq_true g3
                                      have HD2 := Lib.hid (HD.out.trans (show _ = (([], (0, 0)), (5 : Int)) by rw [show FIN = ([], 5) by rw [HF3.out, if_pos g3]]; rfl))
                                      go_wp2_with fail
                                      refine HC2.out.mono ?_
                                      rintro e' Wf ⟨rfl, hyf⟩
                                      have HDg := Lib.hid (HDf.out.grow hyf)
                                      clear hyf HC2
                                      have hbB := (HDg.out).b
                                      clear z0 z1 f0 f1 p0 p1 HBF
                                      have z0 : Wf.cell? ⟨B, 0, none⟩ = some (.int .i64 0) := Joins.cell_of_block hbB 0
                                      have z1 : Wf.cell? ⟨B, 1, none⟩ = some (.int .i64 0) := Joins.cell_of_block hbB 1
                                      have f0 : Wf.frozen? ⟨B, 0, none⟩ = false := Joins.unfrozen_of_block hbB 0
                                      have f1 : Wf.frozen? ⟨B, 1, none⟩ = false := Joins.unfrozen_of_block hbB 1
                                      obtain ⟨p0, p1⟩ := box_store (W := Wf) hbB (.int .i64 0) (.int .i64 0)
                                      have HBF := Lib.hid (((HDg.out).below.setCell (p := ⟨B, 0, none⟩) hBw (.int .i64 0)).setCell (p := ⟨B, 1, none⟩) hBw (.int .i64 0))
                                      clear hbB
                                      go_wp2_with fail
                                      refine bodyPost_ret (v := .tuple #[.slice none 0 0, .agg #[.int .i64 0, .int .i64 0], .int .i64 5]) (by simp [results, Try.results12, go_sem, p0, p1]) rfl (Decoded.no HD2.out HBF.out)
                                    · have t3 : decide ((4096 : Int) < (xl : Int) + (nn : Int)) = false := decide_eq_false (by omega)
                                      have t3' : decide (4096 < xl + nn) = false := decide_eq_false g3
                                      have HF4 := Lib.hid (show FIN = scanG n' m' k (l.drop (p2 + 1)) (X + nn) Y (xs ++ rowF X Y nn) by rw [HF3.out, if_neg g3])
                                      clear HF HF3
                                      go_wp2_with fail
                                      refine HC2.out.mono ?_
                                      rintro e' Wf ⟨rfl, hyf⟩
                                      have HDg := Lib.hid (HDf.out.grow hyf)
                                      have HOg := Lib.hid (own_below HOf.out hyf)
                                      clear hyf HC2 HDf HOf HDe HOe HDd HOd HDc HOc HQ HQd HQe
                                      clear z0 z1 f0 f1 p0 p1 HBF HDS HDS0 HO HOX
                                      go_wp2_with fail
                                      obtain ⟨V, hV⟩ : ∃ V, V = Wf := ⟨_, rfl⟩
                                      subst hV
                                      go_loopw [11, 14] (fun out i wr => ∃ (j k2 : Nat), j + k2 = nn ∧ i = .int .i64 k2 ∧ wr.ownsRow (py + 1) 72 2 out (xl + j) ((xs ++ rowF X Y j).flatMap encCell) ∧ DecSt w wr B R px py r1 r2 (X + j) Y) (fun _ i _ => (intOf i).toNat)
                                      case atStart => exact ⟨0, nn, by omega, by first | rfl | go_num, by have h := HOg.out; rw [← HXL.out] at h; simpa [rowF] using h, HDg.out⟩
                                      case round =>
                                        clear HOg HDg
                                        obtain ⟨j, k2, hjk, rfl, hown, hst⟩ := hrel
                                        obtain ⟨va2, vc2, rfl⟩ := own_form hown
                                        by_cases hk0 : 0 < k2
                                        · obtain ⟨k3, rfl⟩ : ∃ k3, k2 = k3 + 1 := ⟨k2 - 1, by omega⟩
                                          have tk : decide (0 < k3 + 1) = true := decide_eq_true (by omega)
                                          have tk' : decide ((0 : Int) < (k3 : Int) + 1) = true := decide_eq_true (by omega)
                                          have hpyl : py < wr.heap.size := hst.y.lt
                                          obtain ⟨x2, hx2⟩ : ∃ x2, x2 = X + j := ⟨_, rfl⟩
                                          rw [← hx2] at hst
                                          have hx2l : x2 < 9000000000000000000 := by omega
                                          have hyl : Y < 9000000000000000000 := by omega
                                          have HI1 := Lib.hid (int64_any px x2 wr hst.x (by omega))
                                          have HI2 := Lib.hid (int64_any py Y wr hst.y (by omega))
                                          have HS := Lib.hid hst
                                          have HOW := Lib.hid hown
                                          have HXX := Lib.hid hx2
                                          have HROW := Lib.hid (rowF_succ X Y j)
                                          obtain ⟨fl, hfl⟩ : ∃ fl, fl = (xs ++ rowF X Y j).flatMap encCell := ⟨_, rfl⟩
                                          rw [← hfl] at hown
                                          have HFL := Lib.hid hfl
                                          have HNI := Lib.hid (newInt_any 1)
                                          obtain ⟨i0, hi, hz0, hz1, hz2⟩ := info_parts infoCell
                                          clear hst hx2 hfl
                                          go_wp2_with fail
                                          refine HI1.out.mono ?_
                                          rintro e' Wg ⟨rfl, hW⟩
                                          rw [hW]
                                          clear hW
                                          go_wp2_with fail
                                          refine HI2.out.mono ?_
                                          rintro e' Wh ⟨rfl, hW⟩
                                          rw [hW]
                                          clear hW HI1 HI2
                                          go_wp2_with (at_builtin; refine wpList_append_lies _ rfl _ _ 22 rfl (py + 1) 72 i0 _ 2 16 Try.underlying22 hi hz0 hz1 hz2 rfl (by omega) (.slice va2 (xl + j) vc2) (xl + j) fl rfl (hown.alloc _) ⟨wr.heap.size, 0, none⟩ 1 1 [.int .i64 x2, .int .i64 Y] rfl rfl (news_alloc _ _ _ (by simp)) (by simp [Value.oneCell']) (by omega) (by unfold maxLen; omega) (by omega) (by simp; omega) (wr.heap.size + 1) (by simp) ?_; intro g cap1 w7 hown1 hgrow1 hat1 hlt1)
                                          have hs7 : DecSt w w7 B R px py r1 r2 x2 Y := (HS.out.grow ((Below.refl _ _).alloc (Nat.le_refl _) _)).row hgrow1 (hown.alloc _)
                                          have he : fl ++ [.int .i64 x2, .int .i64 Y] = (xs ++ rowF X Y (j + 1)).flatMap encCell := by
                                            rw [HROW.out, ← List.append_assoc, List.flatMap_append, ← HFL.out]
                                            simp [encCell, HXX.out]
                                          rw [he] at hown1
                                          have HO7 := Lib.hid hown1
                                          have HS7 := Lib.hid hs7
                                          clear hgrow1 hat1 hown hown1 he hs7 HS HOW
                                          refine (HNI.out w7 (by omega)).mono ?_
                                          rintro e' Wp ⟨rfl, hqp, hyp⟩
                                          have HS8 := Lib.hid (HS7.out.grow hyp)
                                          have HO8 := Lib.hid (own_below HO7.out hyp)
                                          have HAD := Lib.hid (bigAdd_any px px w7.heap.size x2 1 Wp HS8.out.x.blk HS8.out.x hqp (by omega))
                                          clear hqp hyp HNI HS7 HO7
                                          go_wp2_with fail
                                          refine HAD.out.mono ?_
                                          rintro e' Wq ⟨rfl, hxq, hkq⟩
                                          have HS9 := Lib.hid (HS8.out.setX hkq hxq)
                                          have HO9 := Lib.hid (own_keeps HO8.out hkq (by have := HS8.out.hxy; omega))
                                          clear hxq hkq HAD HS8 HO8
                                          go_wp2_with fail
                                          exact ⟨⟨j + 1, k3, by omega, by go_num, by simpa [Nat.add_assoc] using HO9.out, by rw [show X + (j + 1) = x2 + 1 by have := HXX.out; omega]; exact HS9.out⟩, by simp [intOf]⟩
                                        · obtain rfl : k2 = 0 := by omega
                                          obtain rfl : nn = j := by omega
                                          have HS := Lib.hid hst
                                          have HOW := Lib.hid hown
                                          have hlen : (xs ++ rowF X Y nn).length = xl + nn := by rw [List.length_append, rowF_length, HXL.out]
                                          have HLEN := Lib.hid hlen
                                          clear hst hown hlen
                                          go_wp2_with fail
                                          exact ⟨⟨p2 + 1, k, X + nn, Y, xs ++ rowF X Y nn, by go_num, by omega, by omega, HF4.out, by rw [HLEN.out]; exact HOW.out, by rw [HLEN.out]; omega, HS.out, by omega, by omega⟩, by simp [intOf]; omega⟩
                              have HNO : Aside (stepF (l.drop p) = none) := by
                                show _ = _
                                rw [hstep, if_pos ⟨rfl, h0⟩]
                                show (if d = 98 ∨ d = 111 ∨ d = 36 then _ else _) = _
                                rw [if_neg]
                                rintro (h | h | h)
                                · exact h98 (by rw [h]; rfl)
                                · exact h111 (by rw [h]; rfl)
                                · exact h36 (by rw [h]; rfl)
                              obtain ⟨y2, hy2⟩ : ∃ y2, d.toNat = y2 := ⟨_, rfl⟩
                              rw [hy2] at hgd h36 h98 h111
                              have hy2lt : y2 < 256 := by rw [← hy2]; exact UInt8.toNat_lt _
                              have v36 : ((y2 : Int) == 36) = false := by simp; omega
                              have v98 : ((y2 : Int) == 98) = false := by simp; omega
                              have v111 : ((y2 : Int) == 111) = false := by simp; omega
                              have n36 : ((y2 : Int) != 36) = true := by simp; omega
                              have n98 : ((y2 : Int) != 98) = true := by simp; omega
                              have n111 : ((y2 : Int) != 111) = true := by simp; omega
                              clear hstep hy2
                              go_wp2_with fail
                              refine (HDG.out _).mono ?_
                              rintro e' wr ⟨rfl, hWd⟩
                              subst hWd
                              clear HDG
                              go_wp2_with fail
                              refine (HPL.out _).mono ?_
                              rintro e' wr ⟨rfl, hWp⟩
                              replace HDS := Lib.hid (HDS.out.grow hWp)
                              replace HOX := Lib.hid (own_below HOX.out hWp)
                              have HO := HOX
                              clear hWp HPL
                              have hbB := HDS.out.b
                              clear z0 z1 f0 f1 p0 p1 HBF
                              have z0 : wr.cell? ⟨B, 0, none⟩ = some (.int .i64 0) := Joins.cell_of_block hbB 0
                              have z1 : wr.cell? ⟨B, 1, none⟩ = some (.int .i64 0) := Joins.cell_of_block hbB 1
                              have f0 : wr.frozen? ⟨B, 0, none⟩ = false := Joins.unfrozen_of_block hbB 0
                              have f1 : wr.frozen? ⟨B, 1, none⟩ = false := Joins.unfrozen_of_block hbB 1
                              obtain ⟨p0, p1⟩ := box_store (W := wr) hbB (.int .i64 0) (.int .i64 0)
                              have HBF := Lib.hid ((HDS.out.below.setCell (p := ⟨B, 0, none⟩) hBw (.int .i64 0)).setCell (p := ⟨B, 1, none⟩) hBw (.int .i64 0))
                              clear hbB
                              have HD2 := Lib.hid (HD.out.trans (show _ = (([], (0, 0)), (2 : Int)) by rw [show FIN = ([], 2) by rw [HF.out, scan_none HNO.out]]; rfl))
                              go_wp2_with fail
                              refine bodyPost_ret (v := .tuple #[.slice none 0 0, .agg #[.int .i64 0, .int .i64 0], .int .i64 2]) (by simp [results, Try.results12, go_sem, p0, p1]) rfl (Decoded.no HD2.out HBF.out)
                            · obtain rfl : n = p2 := by omega
                              have HNO : Aside (stepF (l.drop p) = none) := by show _ = _; rw [HSTEP.out, HN.out, List.drop_length]; split <;> rfl
                              have tlen : decide ((n : Int) ≤ (n : Int)) = true := decide_eq_true (Int.le_refl _)
                              have tlen' : decide (n ≤ n) = true := decide_eq_true (Nat.le_refl _)
                              clear HSTEP
                              go_wp2_with fail
                              refine (HDG.out _).mono ?_
                              rintro e' wr ⟨rfl, hWd⟩
                              subst hWd
                              clear HDG
                              go_wp2_with fail
                              refine (HPL.out _).mono ?_
                              rintro e' wr ⟨rfl, hWp⟩
                              replace HDS := Lib.hid (HDS.out.grow hWp)
                              replace HOX := Lib.hid (own_below HOX.out hWp)
                              have HO := HOX
                              clear hWp HPL
                              have hbB := HDS.out.b
                              clear z0 z1 f0 f1 p0 p1 HBF
                              have z0 : wr.cell? ⟨B, 0, none⟩ = some (.int .i64 0) := Joins.cell_of_block hbB 0
                              have z1 : wr.cell? ⟨B, 1, none⟩ = some (.int .i64 0) := Joins.cell_of_block hbB 1
                              have f0 : wr.frozen? ⟨B, 0, none⟩ = false := Joins.unfrozen_of_block hbB 0
                              have f1 : wr.frozen? ⟨B, 1, none⟩ = false := Joins.unfrozen_of_block hbB 1
                              obtain ⟨p0, p1⟩ := box_store (W := wr) hbB (.int .i64 0) (.int .i64 0)
                              have HBF := Lib.hid ((HDS.out.below.setCell (p := ⟨B, 0, none⟩) hBw (.int .i64 0)).setCell (p := ⟨B, 1, none⟩) hBw (.int .i64 0))
                              clear hbB
                              have HD2 := Lib.hid (HD.out.trans (show _ = (([], (0, 0)), (2 : Int)) by rw [show FIN = ([], 2) by rw [HF.out, scan_none HNO.out]]; rfl))
                              go_wp2_with fail
                              refine bodyPost_ret (v := .tuple #[.slice none 0 0, .agg #[.int .i64 0, .int .i64 0], .int .i64 2]) (by simp [results, Try.results12, go_sem, p0, p1]) rfl (Decoded.no HD2.out HBF.out)
                    · obtain rfl : n = p := by omega
                      have tp : decide (n < n) = false := decide_eq_false (by omega)
                      have HD2 := Lib.hid (HD.out.trans (show _ = (([], (0, 0)), (2 : Int)) by rw [show FIN = ([], 2) by rw [HF.out, HN.out, List.drop_length, scan_none rfl]]; rfl))
                      go_wp2_with fail
                      refine bodyPost_ret (v := .tuple #[.slice none 0 0, .agg #[.int .i64 0, .int .i64 0], .int .i64 2]) (by simp [results, Try.results12, go_sem, p0, p1]) rfl (Decoded.no HD2.out HBF.out)
              · obtain ⟨y, hy⟩ : ∃ y, y = d.toNat := ⟨_, rfl⟩
                have HNO2 : Aside (∀ i, a ≤ i → i < e + 1 → l[i]? ≠ some 10) := fun i h1 h2 => by
                  by_cases hie : i = e
                  · rw [hie]; exact not_ten hd h10
                  · exact HNO.out i h1 (by omega)
                rw [← hy] at hgd h10
                have hylt : y < 256 := by rw [hy]; exact UInt8.toNat_lt _
                have ty : ((y : Int) == 10) = false := by simp; omega
                clear hd hy
                go_wp2_with fail
                exact ⟨⟨e + 1, by go_num, by omega, by omega, HNO2, by first | rfl | trivial⟩, by simp [intOf]; omega⟩
            · obtain rfl : n = e := by omega
              have te : decide (n < n) = false := decide_eq_false (by omega)
              have te2 : decide (n ≤ n) = true := decide_eq_true (by omega)
              have hcut := cut_nowhere (l := l) (c := 10) (a := a) (by rw [← HN.out]; exact HNO.out)
              have HD := Lib.hid (HBD.out.trans (show bodyF (l.drop a) = (([], (0, 0)), 2) by rw [bodyF, hcut]))
              obtain ⟨B, hBe⟩ : ∃ b, b = w.heap.size := ⟨_, rfl⟩
              have hBw : w.heap.size ≤ B := by omega
              rw [← hBe] at hb0 ⊢
              have z0 : wr.cell? ⟨B, 0, none⟩ = some (.int .i64 0) := Joins.cell_of_block hb0 0
              have z1 : wr.cell? ⟨B, 1, none⟩ = some (.int .i64 0) := Joins.cell_of_block hb0 1
              have f0 : wr.frozen? ⟨B, 0, none⟩ = false := Joins.unfrozen_of_block hb0 0
              have f1 : wr.frozen? ⟨B, 1, none⟩ = false := Joins.unfrozen_of_block hb0 1
              obtain ⟨p0, p1⟩ := box_store (W := wr) hb0 (.int .i64 0) (.int .i64 0)
              have HBF := Lib.hid ((hB0.setCell (p := ⟨B, 0, none⟩) hBw (.int .i64 0)).setCell (p := ⟨B, 1, none⟩) hBw (.int .i64 0))
              clear hcut hBe
              go_wp2_with fail
              refine bodyPost_ret (v := .tuple #[.slice none 0 0, .agg #[.int .i64 0, .int .i64 0], .int .i64 2]) (by simp [results, Try.results12, go_sem, p0, p1]) rfl (Decoded.no HD.out HBF.out)
end Go.Proofs.Ytffgpjkkgndkiaa
