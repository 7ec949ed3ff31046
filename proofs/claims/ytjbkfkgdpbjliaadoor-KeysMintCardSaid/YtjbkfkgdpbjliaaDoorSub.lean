/-
  Whole numbers: words less words (the second is not above the first).
-/
import Derived.Test.YtjbkfkgdpbjliaaDoorBigOps2
import Derived.Test.YtjbkfkgdpbjliaaDoorSubMath
namespace Go.Proofs.YtjbkfkgdpbjliaaDoor
set_option maxRecDepth 100000
open Go.RowKit

theorem sub_step {x y c d1 d2 : Nat} (hx : x < 4294967296) (hy : y < 4294967296) (hc : c ≤ 1) (h1 : d1 = (x + 18446744073709551616 - c) % 18446744073709551616) (h2 : d2 = (d1 + 18446744073709551616 - y) % 18446744073709551616) : d2 % 4294967296 + y + c = x + 4294967296 * (d2 / 9223372036854775808) ∧ d2 / 9223372036854775808 ≤ 1 := by omega
set_option maxHeartbeats 4000000 in
theorem sub_any (n m : Nat) (u v : Value) (w : World) (hn0 : 0 < n) (hn : n < bigTop) (hmn : m ≤ n) (hu : AbsOf w u n) (hv : AbsOf w v m) :
    Calls Tryd.prog 43 #[u, v] w fun e w' => (∃ v, e = .returned v ∧ AbsOf w' v (n - m)) ∧ Below w.heap.size w w' := by
  obtain ⟨a, ca, rfl, hsa, _⟩ := hu
  obtain ⟨b, cb, rfl, hsb, _⟩ := hv
  have hlta := wordsN_lt n
  have hltb := wordsN_lt m
  have hva := wordsN_val n
  have hvb := wordsN_val m
  have hla := wordsN_len hn
  have hle := wordsN_mono hmn
  have hl0 : (wordsN n).length ≠ 0 := fun h => by have := wordsN_nil.1 h; omega
  obtain ⟨A, hA⟩ : ∃ A, A = wordsN n := ⟨_, rfl⟩
  obtain ⟨B, hB⟩ : ∃ B, B = wordsN m := ⟨_, rfl⟩
  rw [← hA] at hsa hlta hva hla hle hl0 ⊢
  rw [← hB] at hsb hltb hvb hle ⊢
  obtain ⟨la, hLA⟩ : ∃ la, la = A.length := ⟨_, rfl⟩
  obtain ⟨lb, hLB⟩ : ∃ lb, lb = B.length := ⟨_, rfl⟩
  rw [← hLA] at hsa hla hle hl0 ⊢
  rw [← hLB] at hsb hle ⊢
  have HSA := Lib.hid hsa
  have HSB := Lib.hid hsb
  have HLA := Lib.hid hLA
  have HLB := Lib.hid hLB
  have HTA := Lib.hid hlta
  have HTB := Lib.hid hltb
  have HV := Lib.hid (show valW B ≤ valW A ∧ valW A - valW B = n - m from ⟨by omega, by omega⟩)
  have hmk := make_words la (by omega) w
  clear hsa hsb hA hB hLA hLB hlta hltb hva hvb
  go_enter Tryd.func43, Tryd.ntmps43
  go_wp2_with fail
  obtain ⟨W, hW⟩ : ∃ W, W = w.alloc (.cells (zerosW la) 66) := ⟨_, rfl⟩
  have hR0 : RowR W w.heap.size [] la := by rw [hW]; exact blk_last w _ rfl
  have hB0 : Below w.heap.size w W := by rw [hW]; exact (Below.refl _ _).alloc (Nat.le_refl _) _
  rw [← hW]
  clear hW hmk
  go_loopw [6, 7, 8] (fun c i _ wr => ∃ (k cc : Nat) (R : List Nat), i = .int .i64 k ∧ c = .int .u64 cc ∧ k ≤ la ∧ Aside (SubSt A B R k cc) ∧ Aside (RowR wr w.heap.size R (la - k)) ∧ Below w.heap.size w wr) (fun _ i _ _ => la - (intOf i).toNat)
  case atStart => exact ⟨0, 0, [], rfl, rfl, Nat.zero_le _, SubSt.start _ _, hR0, hB0⟩
  case round =>
    clear hR0 hB0
    obtain ⟨k, cc, R, rfl, rfl, hk, HST, HR, hBw⟩ := hrel
    have hcc := HST.out.carry
    have hRl := HST.out.len
    have hgl : w.heap.size < wr.heap.size := lt_of_block HR.out
    by_cases hlt : k < la
    · have hdk : decide (k < la) = true := decide_eq_true (by omega)
      obtain ⟨x, hx⟩ : ∃ x, A[k]? = some x := ⟨A[k]'(by have := HLA.out; omega), by simp⟩
      have hx1 : x < 4294967296 := HTA.out x (List.mem_of_getElem? hx)
      obtain ⟨p, o, rfl, hr⟩ := (HSA.out.below (by omega) hBw).row (by omega)
      have hc0 : wr.cell? ⟨p, o + k, none⟩ = some (.int .u32 x) := hr k _ (by rw [List.getElem?_map, hx]; rfl)
      have fr : wr.frozen? ⟨w.heap.size, k, none⟩ = false := Joins.unfrozen_of_block HR.out k
      have fc : wr.cell? ⟨w.heap.size, k, none⟩ = some (.int .u32 0) := by
        have h := HR.out
        unfold RowR at h
        rw [Joins.cell_of_block h]
        simp only [List.getElem?_toArray, List.getElem?_map]
        rw [List.getElem?_append_right (by omega), hRl, Nat.sub_self, show la - k = (la - k - 1) + 1 by omega, List.replicate_succ]
        rfl
      have hset : ∀ y, Aside (RowR (wr.setCell ⟨w.heap.size, k, none⟩ (.int .u32 (y : Nat))) w.heap.size (R ++ [y]) (la - (k + 1))) := fun y => by
        have h := HR.out
        rw [show la - k = (la - (k + 1)) + 1 by omega] at h
        have h := h.set y
        rw [hRl] at h
        exact h
      have HSET := Lib.hid hset
      obtain ⟨d1, hd1⟩ : ∃ d1, d1 = (x + 18446744073709551616 - cc) % 18446744073709551616 := ⟨_, rfl⟩
      have hd1I : IntKind.u64.wrap ((x : Int) - (cc : Int)) = (d1 : Int) := by rw [IntKind.wrap_u64]; omega
      by_cases hkb : k < lb
      · have hdb : decide (k < lb) = true := decide_eq_true (by omega)
        obtain ⟨y, hy⟩ : ∃ y, B[k]? = some y := ⟨B[k]'(by have := HLB.out; omega), by simp⟩
        have hy1 : y < 4294967296 := HTB.out y (List.mem_of_getElem? hy)
        obtain ⟨p', o', rfl, hr'⟩ := (HSB.out.below (by omega) hBw).row (by omega)
        have hc1 : wr.cell? ⟨p', o' + k, none⟩ = some (.int .u32 y) := hr' k _ (by rw [List.getElem?_map, hy]; rfl)
        obtain ⟨d2, hd2⟩ : ∃ d2, d2 = (d1 + 18446744073709551616 - y) % 18446744073709551616 := ⟨_, rfl⟩
        have hd2I : IntKind.u64.wrap ((d1 : Int) - (y : Int)) = (d2 : Int) := by rw [IntKind.wrap_u64]; omega
        obtain ⟨s1, s2⟩ := sub_step hx1 hy1 hcc hd1 hd2
        have hd2b : d2 < 18446744073709551616 := by omega
        have HN := Lib.hid (HST.out.next hx hx1 (.inl ⟨hy, hy1⟩) (lo := d2 % 4294967296) (by omega) s2 s1)
        obtain ⟨lo, hlo⟩ : ∃ lo, lo = d2 % 4294967296 := ⟨_, rfl⟩
        obtain ⟨hi, hhi⟩ : ∃ hi, hi = d2 / 9223372036854775808 := ⟨_, rfl⟩
        rw [← hlo, ← hhi] at HN
        have hloI : (d2 : Int) % 4294967296 = (lo : Int) := by omega
        have hhiI : (d2 : Int) / 9223372036854775808 = (hi : Int) := by omega
        have HB2 := Lib.hid (hBw.setCell (p := ⟨w.heap.size, k, none⟩) (Nat.le_refl _) (.int .u32 (lo : Nat)))
        clear hx hy hr hr' hset hd1 hd2 s1 s2 hlo hhi
        go_wp2_with fail
        exact ⟨⟨k + 1, hi, R ++ [lo], by go_num, by go_num, by omega, HN.out, HSET.out _, HB2.out⟩, by simp [intOf]; omega⟩
      · have hdb : decide (k < lb) = false := decide_eq_false (by omega)
        obtain ⟨s1, s2⟩ := sub_step (y := 0) hx1 (by omega) hcc hd1 (show d1 = (d1 + 18446744073709551616 - 0) % 18446744073709551616 by omega)
        have hd1b : d1 < 18446744073709551616 := by omega
        have HN := Lib.hid (HST.out.next hx hx1 (y := 0) (.inr ⟨by have := HLB.out; omega, rfl⟩) (lo := d1 % 4294967296) (by omega) s2 s1)
        obtain ⟨lo, hlo⟩ : ∃ lo, lo = d1 % 4294967296 := ⟨_, rfl⟩
        obtain ⟨hi, hhi⟩ : ∃ hi, hi = d1 / 9223372036854775808 := ⟨_, rfl⟩
        rw [← hlo, ← hhi] at HN
        have hloI : (d1 : Int) % 4294967296 = (lo : Int) := by omega
        have hhiI : (d1 : Int) / 9223372036854775808 = (hi : Int) := by omega
        have HB2 := Lib.hid (hBw.setCell (p := ⟨w.heap.size, k, none⟩) (Nat.le_refl _) (.int .u32 (lo : Nat)))
        clear hx hr hset hd1 s1 s2 hlo hhi
        go_wp2_with fail
        exact ⟨⟨k + 1, hi, R ++ [lo], by go_num, by go_num, by omega, HN.out, HSET.out _, HB2.out⟩, by simp [intOf]; omega⟩
    · obtain rfl : la = k := by omega
      have hdk : decide (la < la) = false := decide_eq_false (by omega)
      have hen := HST.out.ends HLA.out.symm (by have := HLB.out; omega) HV.out.1
      have hset : RowR wr w.heap.size R 0 := by
        have h := HR.out
        rw [Nat.sub_self] at h
        exact h
      have hsl := hset.sl (by omega)
      have hRW : wr.heap[w.heap.size]? = some (.cells (R.map u32V).toArray 66 (0, 0)) := by
        have h := hset
        unfold RowR at h
        rw [List.replicate_zero, List.append_nil] at h
        exact h
      have hT := trim_any R (some ⟨w.heap.size, 0, none⟩) R.length _ (by omega) HST.out.low hsl (fun b o x hx => by cases hx; exact ⟨_, _, hRW⟩)
      rw [hen, HV.out.2, hRl] at hT
      have HT := Lib.hid hT
      clear hset hsl hT hen hRW
      go_wp2_with fail
      refine HT.out.mono ?_
      rintro e w' ⟨⟨v, rfl, hv⟩, rfl⟩
      have HAV := Lib.hid hv
      clear hv
      go_wp2_with fail
      go_ret
      exact ⟨⟨v, rfl, HAV.out⟩, hBw⟩
end Go.Proofs.YtjbkfkgdpbjliaaDoor
