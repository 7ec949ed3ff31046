/-
  quad.Cells; arena.New: an arena of its own.
-/
import Derived.Test.YtdmamecfmfhlmaaZQuadPutsQEach
import Derived.Test.YtdmamecfmfhlmaaZQuadPutsTidies
import Derived.Test.YtdmamecfmfhlmaaKinds
namespace Go.Proofs.Ytdmamecfmfhlmaa
set_option maxRecDepth 100000
open Go.RowKit

set_option maxHeartbeats 4000000 in
set_option maxRecDepth 100000 in
theorem qcells_any (b t : Nat) (S : ArS) (F : Nat → Prop) (n : Nat) (T : Tree) (id : Int) (w : World) (h : IsAr b S w F) (ht : t < 64) (hd : Den S.L t (n + 1) T id) (hc : cnt T ≤ 4096) (hn : n + 1 ≤ 43) :
    Calls Try.prog 15 #[.pointer (some ⟨b, 0, none⟩), .int .i64 t, .int .i64 id] w (Tidied w (cellsT (n + 1) T (-((2 ^ n : Nat) : Int)) (-((2 ^ n : Nat) : Int)))) := by
  have HW := Lib.hid (walk_any b t w)
  have HI := Lib.hid h
  have HFL := Lib.hid h.lt
  have HD := Lib.hid hd
  have HLA := Lib.hid (hd.levelA h.ok ht)
  obtain ⟨H, hH⟩ : ∃ H : Nat, H = 2 ^ n := ⟨_, rfl⟩
  have hHb : H ≤ 8796093022208 := by
    have : 2 ^ n ≤ 2 ^ 43 := Nat.pow_le_pow_right (by omega) (by omega)
    omega
  have hp2 : (2 : Int) ^ (n + 1) = 2 * (H : Int) := by
    rw [Int.pow_succ, show (2 : Int) ^ n = (H : Int) by rw [hH, Int.natCast_pow]; rfl]; omega
  have HP2 := Lib.hid hp2
  obtain ⟨lv, hlv⟩ : ∃ lv : Nat, lv = n + 1 := ⟨_, rfl⟩
  have HHF := Lib.hid (show ∀ W : World, Calls Try.prog 45 #[.int .i64 (lv : Int)] W fun e w' => e = .returned (.int .i64 (H : Int)) ∧ w' = W from fun W => by
    have hf := half_any lv (by omega) (by omega) W
    rw [hlv] at hf
    rw [hlv, hH]; exact hf)
  have HCN := Lib.hid (show (cellsT (n + 1) T (-(H : Int)) (-(H : Int))).length = cnt T from cellsT_len _ _ hd.full)
  have HC := Lib.hid hc
  have hlI : ((n + 1 : Nat) : Int) = (lv : Int) := by omega
  have hlz : ((lv : Int) == 0) = false := by simp; omega
  have hlz2 : (lv == 0) = false := by simp; omega
  have hn41 : n ≤ 42 := by omega
  have HLI := Lib.hid hlI
  have hH42 : H ≤ 4398046511104 := by
    have : 2 ^ n ≤ 2 ^ 42 := Nat.pow_le_pow_right (by omega) (by omega)
    omega
  rw [← hH]
  rw [hlI] at HLA
  clear h hd hc hH hp2 hlv hlI
  go_enter Try.func15, Try.ntmps15
  go_wp2_with fail
  with_reducible refine HW.out.mono ?_
  rintro e w1 ⟨rfl, hb1, hm1, hz1, hh1⟩
  have HLV := Lib.hid (hlevel_any (w.heap.size + 1) b t 0 96 (some (.map (some w.heap.size))) S F id w1 (HI.out.below hb1) hh1 (fun e => by have := HFL.out _ e; omega))
  rw [if_pos rfl, if_pos rfl, HLA.out] at HLV
  have HB1 := Lib.hid hb1
  have HM1 := Lib.hid hm1
  have HZ1 := Lib.hid hz1
  clear hb1 hm1 hh1 hz1
  go_wp2_with fail
  with_reducible refine HLV.out.mono ?_
  rintro e w2 ⟨rfl, hh2, hk2⟩
  have c2 := hh2.c2
  obtain ⟨X, hX⟩ : ∃ X, X = w2.alloc (.cells #[.slice none 0 0] 30 (0, 0)) := ⟨_, rfl⟩
  have hbX : Below w2.heap.size w2 X := by rw [hX]; exact (Below.refl _ _).alloc (Nat.le_refl _) _
  have hout : X.heap[w2.heap.size]? = some (.cells #[.slice none 0 0] 30 (0, 0)) := by rw [hX]; exact blk_last w2 _ rfl
  have hz1 := HZ1.out
  have hsz := hk2.size
  have hm2 : w2.heap[w.heap.size]? = some (.map #[] 0) := (hk2.block _ (by omega) (by omega)).trans HM1.out
  have hm0 : MapOf intV I64 w2 w.heap.size 0 (fun _ => none) := ⟨#[], 0, hm2, by simp, by simp [MapKept.Stamped], fun e he => by simp at he, fun a v hv => by cases hv⟩
  have hi2 : IsAr b S w2 F := (HI.out.below HB1.out).keep hk2 (fun i hi e => by have := HFL.out i hi; omega)
  have hst : WSt b t S F (w.heap.size + 1) w.heap.size 0 (fun _ => none) X :=
    ⟨hi2.below hbX, hh2.keep (hbX.block _ hh2.lt), hm0.keep (hbX.block _ hm0.lt), ⟨fun i v hv => by cases hv⟩, ⟨fun e => by have := HFL.out _ e; omega, fun e => by have := HFL.out _ e; omega⟩, by omega⟩
  have hes : ESt b t S F (w.heap.size + 1) w.heap.size w2.heap.size 0 (fun _ => none) [] (.slice none 0 0) X :=
    ⟨hst, ⟨hout, Row.nil _ _ _⟩, ⟨by omega, by omega, fun e => by have := HFL.out _ e; omega⟩, fun q hq => by cases hq⟩
  have hea := each_any (n + 1) b t S F _ _ _ _ _ _ _ T id (-(H : Int)) (-(H : Int)) X hes ht HD.out (by have := HC.out; simp only [List.length_nil]; omega) (by omega) (by rw [HP2.out]; omega) (by omega) (by rw [HP2.out]; omega) (by omega)
  rw [HLI.out] at hea
  have HEA := Lib.hid hea
  have HX := Lib.hid hX
  have HBX := Lib.hid (show Below w.heap.size w X from HB1.out.trans ((hk2.toBelow (B := w.heap.size) (fun i e => by omega) HB1.out.size).trans (hbX.mono (by omega))))
  have HS2 := Lib.hid (show w.heap.size + 2 ≤ w2.heap.size by omega)
  clear hh2 hk2 hX hbX hout hz1 hsz hm2 hm0 hi2 hst hes hea
  go_upto_region 8 with fail
  rw [← HX.out]
  go_wp2_with fail
  with_reducible refine (HHF.out _).mono ?_
  rintro e w3 ⟨rfl, rfl⟩
  go_wp2_with fail
  with_reducible refine (HHF.out _).mono ?_
  rintro e w4 ⟨rfl, rfl⟩
  go_wp2_with fail
  with_reducible refine HEA.out.mono ?_
  rintro e w5 ⟨rfl, nn', f', v', hr⟩
  rw [List.nil_append] at hr
  have k2 := hr.st.st.hand.c2
  obtain ⟨va, vc, hvf, _, _, _⟩ := hr.st.out.row.form
  have k9 := Joins.cell_of_block hr.st.out.own 0
  rw [hvf] at k9
  simp at k9
  have hlen : (cellsT (n + 1) T (-(H : Int)) (-(H : Int))).length ≤ 4096 := by rw [HCN.out]; exact HC.out
  have hsl := hr.st.out.row.sl (bytes := 16) (by omega)
  rw [hvf] at hsl
  obtain ⟨a', c', e', hs⟩ := hsl
  simp only [Value.slice.injEq, true_and] at e'
  obtain ⟨rfl, rfl⟩ := e'
  have HTD := Lib.hid (tidy_any (cellsT (n + 1) T (-(H : Int)) (-(H : Int))) va vc w5 hs)
  have HB5 := Lib.hid (show Below w.heap.size w w5 from HBX.out.trans (hr.keep.toBelow (B := w.heap.size) (fun i e => by
    have := HS2.out
    rcases e with e | e | e | e
    · omega
    · omega
    · omega
    · cases e) HBX.out.size))
  obtain ⟨cl, hcl⟩ : ∃ cl, cl = cellsT (n + 1) T (-(H : Int)) (-(H : Int)) := ⟨_, rfl⟩
  have HCL := Lib.hid hcl
  rw [← hcl] at HTD k9
  unfold Tidied at HTD
  obtain ⟨er, her⟩ : ∃ er, er = (tidyF cl).2 := ⟨_, rfl⟩
  have HER := Lib.hid her
  rw [← her] at HTD
  clear hr hvf hlen hs hcl her c2
  go_wp2_with fail
  with_reducible refine HTD.out.mono ?_
  rintro e w6 ⟨v6, rfl, h6, ht6⟩
  have H6 := Lib.hid h6
  have HT6 := Lib.hid ht6
  clear h6 ht6
  go_wp2_with fail
  go_ret2
  refine ⟨v6, by rw [← HCL.out, ← HER.out]; rfl, HB5.out.trans (H6.out.mono HB5.out.size), by rw [← HCL.out]; exact HT6.out.mono HB5.out.size⟩
end Go.Proofs.Ytdmamecfmfhlmaa
namespace Go.Proofs.Ytdmamecfmfhlmaa
set_option maxRecDepth 100000
open Go.RowKit

def twoEntries : Array Value := #[.int .i64 0, .int .i64 0, .int .i64 0, .int .i64 0, .int .i64 0, .int .i64 0, .int .i64 0, .int .u64 0, .int .i64 0, .int .i64 0, .int .i64 0, .int .i64 0, .int .i64 0, .int .i64 0, .int .i64 0, .int .u64 0]
theorem make_two (W : World) : (Instr.makeSlice 87 (.int .i64 2) (.int .i64 2)).run Try.prog W = .ok (.slice (some ⟨W.heap.size, 0, none⟩) 2 2) (W.alloc (.cells twoEntries 86)) := by kernel_rfl
theorem make_index (W : World) : (Instr.makeMap 88 none).run Try.prog W = .ok (.map (some W.heap.size)) (W.alloc (.map #[] 0)) := rfl
/-- What a new arena holds ahead of its quotas. -/
noncomputable def arena0 (n : Int) (b : Nat) : Array Value := ((Try.zeroCells91.setIfInBounds 0 (.int .i64 n)).setIfInBounds 1 (.slice (some ⟨b, 0, none⟩) 2 2)).setIfInBounds 2 (.map (some (b + 1)))
theorem arena0_size (n : Int) (b : Nat) : (arena0 n b).size = 197 := by
  rw [arena0, Array.size_setIfInBounds, Array.size_setIfInBounds, Array.size_setIfInBounds]; rfl
set_option maxHeartbeats 2000000 in
theorem arenaNew_any (n : Nat) (w : World) (hn : n ≤ 200000) :
    Calls Try.prog 25 #[.int .i64 n] w fun e w' => ∃ arr : Array Value, e = .returned (.tuple #[.pointer (some ⟨w.heap.size + 2, 0, none⟩), .int .i64 0]) ∧ Below w.heap.size w w' ∧ w'.heap[w.heap.size]? = some (.cells twoEntries 86 (0, 0)) ∧ w'.heap[w.heap.size + 1]? = some (.map #[] 0) ∧ w'.heap[w.heap.size + 2]? = some (.cells arr 91 (0, 0)) ∧ arr.size = 197 ∧ ∀ j, arr[j]? = if 68 ≤ j ∧ j < 132 then some (.int .i64 n) else (arena0 n w.heap.size)[j]? := by
  have h1 : (0 : Int) ≤ (n : Int) := by omega
  have h2 : (n : Int) ≤ 200000 := by omega
  have h3 : decide ((n : Int) < 0) = false := by simp
  have h4 : decide ((200000 : Int) < (n : Int)) = false := by simp; omega
  have hmk := make_two
  have hmm := make_index
  have HZ : Aside ((arena0 n w.heap.size).size = 197) := arena0_size n w.heap.size
  go_enter Try.func25, Try.ntmps25
  go_wp2_with fail
  rw [show ((Try.zeroCells91.setIfInBounds 0 (Value.int .i64 n)).setIfInBounds 1 (.slice (some ⟨w.heap.size, 0, none⟩) 2 2)).setIfInBounds 2 (.map (some (w.heap.size + 1))) = arena0 n w.heap.size from rfl]
  obtain ⟨Z, hZ⟩ : ∃ Z, Z = arena0 n w.heap.size := ⟨_, rfl⟩
  rw [← hZ] at HZ ⊢
  have HZ2 := Lib.hid hZ
  clear hZ
  go_loopw [17] (fun i wr => ∃ (k : Nat) (arr : Array Value), i = .int .i64 k ∧ k ≤ 64 ∧ arr.size = 197 ∧ Aside (∀ j, arr[j]? = if 68 ≤ j ∧ j < 68 + k then some (Value.int .i64 n) else Z[j]?) ∧ Below w.heap.size w wr ∧ w.heap.size + 2 < wr.heap.size ∧ wr.heap[w.heap.size]? = some (.cells twoEntries 86 (0, 0)) ∧ wr.heap[w.heap.size + 1]? = some (.map #[] 0) ∧ wr.heap[w.heap.size + 1 + 1]? = some (.cells arr 91 (0, 0))) (fun i _ => 64 - (intOf i).toNat)
  case atStart =>
    refine ⟨0, Z, rfl, Nat.zero_le _, HZ.out, ?_, (((Below.refl _ _).alloc (Nat.le_refl _) _).alloc (by simp) _).alloc (by simp; omega) _, by simp, ?_, ?_, blk_last _ _ (by simp)⟩
    · show ∀ j, _
      intro j
      rw [if_neg (by omega)]
    · exact blk_alloc (blk_alloc (blk_last _ _ rfl) _) _
    · exact blk_alloc (blk_last _ _ (by simp)) _
  case round =>
    obtain ⟨k, arr, rfl, hk, hsz, HA, hB, hws, hb0, hb1, hb2⟩ := hrel
    have hu := Joins.unfrozen_of_block hb2 (68 + k)
    by_cases hlt : k < 64
    · have w1 : (k : Int) < 64 := by omega
      obtain ⟨x, hx⟩ : ∃ x, arr[68 + k]? = some x := ⟨arr[68 + k]'(by omega), by simp⟩
      have hc : wr.cell? ⟨w.heap.size + 1 + 1, 68 + k, none⟩ = some x := by rw [Joins.cell_of_block hb2, hx]
      clear hx
      go_wp2_with fail
      refine ⟨⟨k + 1, arr.setIfInBounds (68 + k) (.int .i64 n), by go_num, by omega, by rw [Array.size_setIfInBounds, hsz], ?_, hB.setCell (by simp; omega) _, by simpa using hws, blk_set hb0 (by simp; omega) _, blk_set hb1 (by simp) _, Joins.block_setCell hb2 _⟩, by simp [intOf]; omega⟩
      show ∀ j, _
      intro j
      rw [Array.getElem?_setIfInBounds]
      have h := HA.out j
      by_cases hj : 68 + k = j
      · rw [if_pos hj, if_pos (by omega), if_pos (by omega)]
      · rw [if_neg hj, h]
        by_cases h2 : 68 ≤ j ∧ j < 68 + k
        · rw [if_pos h2, if_pos (by omega)]
        · rw [if_neg h2, if_neg (by omega)]
    · obtain rfl : k = 64 := by omega
      have HF := Lib.hid HA.out
      clear hk hlt
      go_wp2_with fail
      refine bodyPost_ret (v := .tuple #[.pointer (some ⟨w.heap.size + 1 + 1, 0, none⟩), .int .i64 0]) (by simp [results, Try.results25, go_sem]) rfl ⟨arr, rfl, hB, hb0, hb1, hb2, hsz, fun j => by rw [HF.out, HZ2.out]⟩
end Go.Proofs.Ytdmamecfmfhlmaa
