/-
  Whole numbers: right by 27, 30, 31.
-/
import Derived.Test.YtjbkfkgdpbjliaaDoorMulWords
import Derived.Test.YtjbkfkgdpbjliaaDoorBigRead
import Derived.Test.YtjbkfkgdpbjliaaDoorBigText
namespace Go.Proofs.YtjbkfkgdpbjliaaDoor
set_option maxRecDepth 100000
open Go.RowKit

/-- Words moved to the right. -/
def shrL (s : Nat) : List Nat → List Nat
  | [] => []
  | x :: r => (x + 4294967296 * r.headD 0) / 2 ^ s % 4294967296 :: shrL s r
theorem shrL_len (s : Nat) : ∀ l, (shrL s l).length = l.length
  | [] => rfl
  | _ :: r => by rw [shrL, List.length_cons, List.length_cons, shrL_len s r]
theorem shrL_low (s : Nat) : ∀ l, ∀ x ∈ shrL s l, x < 4294967296
  | [], x, h => by cases h
  | _ :: r, x, h => by
    rw [shrL] at h
    rcases List.mem_cons.1 h with rfl | h
    · exact Nat.mod_lt _ (by omega)
    · exact shrL_low s r x h
theorem shrL_at (s : Nat) : ∀ {l : List Nat} {i x : Nat}, l[i]? = some x → (shrL s l)[i]? = some ((x + 4294967296 * (l.drop (i + 1)).headD 0) / 2 ^ s % 4294967296)
  | [], _, _, h => by simp at h
  | z :: r, 0, x, h => by
    obtain rfl : z = x := by simpa using h
    rfl
  | z :: r, i + 1, x, h => by
    rw [shrL, List.getElem?_cons_succ, List.drop_succ_cons]
    exact shrL_at s (by simpa using h)
theorem shrL_val {s : Nat} (hs : s ≤ 32) : ∀ l, (∀ x ∈ l, x < 4294967296) → valW (shrL s l) = valW l / 2 ^ s
  | [], _ => by simp [shrL, valW]
  | x :: r, h => by
    have hx := h x (List.mem_cons_self ..)
    have ih := shrL_val hs r (fun y hy => h y (List.mem_cons_of_mem _ hy))
    have hP : 0 < 2 ^ s := Nat.two_pow_pos s
    obtain ⟨P, hPe⟩ : ∃ P, P = 2 ^ s := ⟨_, rfl⟩
    obtain ⟨Q, hQ⟩ : ∃ Q, 4294967296 = P * Q := ⟨2 ^ (32 - s), by rw [hPe, ← Nat.pow_add, Nat.add_sub_cancel' hs]⟩
    obtain ⟨V, hV⟩ : ∃ V, V = valW r := ⟨_, rfl⟩
    obtain ⟨y, hy⟩ : ∃ y, y = r.headD 0 := ⟨_, rfl⟩
    have hVy : V % 4294967296 = y := by
      cases r with
      | nil => rw [hV, hy]; rfl
      | cons z t =>
        have hz := h z (by simp)
        rw [hV, hy]
        show (z + 4294967296 * valW t) % 4294967296 = z
        rw [Nat.add_mul_mod_self_left]
        exact Nat.mod_eq_of_lt hz
    rw [shrL]
    show (x + 4294967296 * r.headD 0) / 2 ^ s % 4294967296 + 4294967296 * valW (shrL s r) = (x + 4294967296 * valW r) / 2 ^ s
    rw [ih, ← hV, ← hy, ← hPe]
    rw [← hPe] at hP
    -- V = P q + t, y = P q' + t
    have e1 : V = P * (V / P) + V % P := (Nat.div_add_mod V P).symm
    have e2 : y % P = V % P := by rw [← hVy, hQ, Nat.mod_mul_right_mod]
    have e3 : y = P * (y / P) + V % P := by rw [← e2]; exact (Nat.div_add_mod y P).symm
    obtain ⟨t, ht⟩ : ∃ t, t = V % P := ⟨_, rfl⟩
    have htP : t < P := by rw [ht]; exact Nat.mod_lt _ hP
    obtain ⟨qv, hqv⟩ : ∃ q, q = V / P := ⟨_, rfl⟩
    obtain ⟨qy, hqy⟩ : ∃ q, q = y / P := ⟨_, rfl⟩
    rw [← ht, ← hqv] at e1
    rw [← ht, ← hqy] at e3
    rw [← hqv]
    have f1 : ∀ q, x + 4294967296 * (P * q + t) = P * (4294967296 * q) + (x + 4294967296 * t) := fun q => by
      rw [Nat.mul_add, ← Nat.mul_assoc, ← Nat.mul_assoc, Nat.mul_comm 4294967296 P]; omega
    have hlt : (x + 4294967296 * t) / P < 4294967296 := by
      rw [Nat.div_lt_iff_lt_mul hP]
      have : 4294967296 * t + 4294967296 ≤ 4294967296 * P := by rw [← Nat.mul_succ]; exact Nat.mul_le_mul_left _ htP
      omega
    rw [e1, e3, f1, f1, Nat.mul_add_div hP, Nat.mul_add_div hP, Nat.mul_add_mod, Nat.mod_eq_of_lt hlt]
    omega
theorem headD_drop {l : List Nat} {i y : Nat} (h : l[i]? = some y) : (l.drop i).headD 0 = y := by
  obtain ⟨hi, rfl⟩ := List.getElem?_eq_some_iff.1 h
  rw [List.drop_eq_getElem_cons hi]; rfl
theorem headD_none {l : List Nat} {i : Nat} (h : l.length ≤ i) : (l.drop i).headD 0 = 0 := by rw [List.drop_eq_nil_of_le h]; rfl
set_option maxHeartbeats 4000000 in
theorem right27_any (n : Nat) (u : Value) (w : World) (hn : n < bigTop) (hu : AbsOf w u n) :
    Calls Tryd.prog 42 #[u, .int .u64 27] w fun e w' => (∃ r, e = .returned r ∧ AbsOf w' r (n / 134217728)) ∧ Below w.heap.size w w' := by
  obtain ⟨a, ca, rfl, hsa, _⟩ := hu
  have hlta := wordsN_lt n
  have hva := wordsN_val n
  have hla := wordsN_len hn
  by_cases h0 : n = 0
  · subst h0
    rw [wordsN_zero]
    rw [show ([] : List Nat).length = 0 from rfl]
    clear hsa
    go_enter Tryd.func42, Tryd.ntmps42
    go_wp2_with fail
    go_ret
    exact ⟨⟨.slice none 0 0, rfl, by rw [Nat.zero_div]; exact AbsOf.zero _⟩, Below.refl _ _⟩
  have hl0 : (wordsN n).length ≠ 0 := fun h => h0 (wordsN_nil.1 h)
  obtain ⟨A, hA⟩ : ∃ A, A = wordsN n := ⟨_, rfl⟩
  rw [← hA] at hsa hlta hva hla hl0 ⊢
  obtain ⟨la, hLA⟩ : ∃ la, la = A.length := ⟨_, rfl⟩
  rw [← hLA] at hsa hla hl0 ⊢
  have HSA := Lib.hid hsa
  have HLA := Lib.hid hLA
  have HTA := Lib.hid hlta
  have HVA := Lib.hid hva
  have hmk := make_words la (by omega) w
  have hz0 : ¬ ((la : Int) ≤ 0) := by omega
  have hz1 : decide ((0 : Int) ≥ (la : Int)) = false := decide_eq_false (by omega)
  have hz3 : decide ((la : Int) ≤ 0) = false := decide_eq_false (by omega)
  clear hsa hA hLA hlta hva h0
  go_enter Tryd.func42, Tryd.ntmps42
  go_wp2_with fail
  obtain ⟨W, hW⟩ : ∃ W, W = w.alloc (.cells (zerosW la) 66) := ⟨_, rfl⟩
  have hR0 : RowL W w.heap.size (List.replicate la 0) := by rw [hW]; exact rowL_zeros rfl
  have hB0 : Below w.heap.size w W := by rw [hW]; exact (Below.refl _ _).alloc (Nat.le_refl _) _
  rw [← hW]
  clear hW hmk
  go_loopw [8, 9] (fun i _ wr => ∃ (k : Nat), i = .int .i64 k ∧ k ≤ la ∧ Aside (RowL wr w.heap.size ((shrL 27 A).take k ++ List.replicate (la - k) 0)) ∧ Below w.heap.size w wr) (fun i _ _ => la - (intOf i).toNat)
  case atStart => exact ⟨0, rfl, Nat.zero_le _, hR0, hB0⟩
  case round =>
    clear hR0 hB0
    obtain ⟨k, rfl, hk, HR, hBw⟩ := hrel
    have hgl : w.heap.size < wr.heap.size := lt_of_block HR.out
    by_cases hlt : k < la
    · obtain ⟨x, hx⟩ : ∃ x, A[k]? = some x := ⟨A[k]'(by have := HLA.out; omega), by simp⟩
      have hx1 : x < 4294967296 := HTA.out x (List.mem_of_getElem? hx)
      obtain ⟨q, o, rfl, hr⟩ := (HSA.out.below (by omega) hBw).row (by omega)
      have hc0 : wr.cell? ⟨q, o + k, none⟩ = some (.int .u32 x) := hr k _ (by rw [List.getElem?_map, hx]; rfl)
      have fr : wr.frozen? ⟨w.heap.size, k, none⟩ = false := Joins.unfrozen_of_block HR.out k
      have hlk : ((shrL 27 A).take k).length = k := by rw [List.length_take, shrL_len, ← HLA.out]; omega
      have hcz : wr.cell? ⟨w.heap.size, k, none⟩ = some (.int .u32 0) := HR.out.cell (by rw [List.getElem?_append_right (by omega), hlk, Nat.sub_self, List.getElem?_replicate, if_pos (by omega)])
      obtain ⟨v, hv⟩ : ∃ v, v = x + 4294967296 * (A.drop (k + 1)).headD 0 := ⟨_, rfl⟩
      have hsh := shrL_at 27 hx
      rw [← hv] at hsh
      obtain ⟨z, hz⟩ : ∃ z, z = v / 134217728 % 4294967296 := ⟨_, rfl⟩
      have hsh2 : (shrL 27 A)[k]? = some z := by rw [hsh, hz]
      have hset : RowL (wr.setCell ⟨w.heap.size, k, none⟩ (.int .u32 (z : Nat))) w.heap.size ((shrL 27 A).take (k + 1) ++ List.replicate (la - (k + 1)) 0) := by
        have h := RowL.set (w := wr) HR.out k z
        obtain ⟨f, hf⟩ : ∃ f, la - k = f + 1 := ⟨la - k - 1, by omega⟩
        rw [hf, List.replicate_succ] at h
        have e := set_mid ((shrL 27 A).take k) 0 z (List.replicate f 0)
        rw [hlk] at e
        rw [e] at h
        rw [List.take_add_one, hsh2, show la - (k + 1) = f by omega, List.append_assoc]
        exact h
      have HSET := Lib.hid hset
      have HB2 := Lib.hid (hBw.setCell (p := ⟨w.heap.size, k, none⟩) (Nat.le_refl _) (.int .u32 (z : Nat)))
      have q0 : (0 : Int) ≤ (k : Int) := by omega
      have q1 : (k : Int) < (la : Int) := by omega
      have hzI : (v : Int) / 134217728 % 4294967296 = (z : Int) := by omega
      by_cases hk1 : k + 1 < la
      · obtain ⟨y, hy⟩ : ∃ y, A[k + 1]? = some y := ⟨A[k + 1]'(by have := HLA.out; omega), by simp⟩
        have hy1 : y < 4294967296 := HTA.out y (List.mem_of_getElem? hy)
        obtain ⟨k2, hk2⟩ : ∃ k2, k2 = k + 1 := ⟨_, rfl⟩
        have hc1 : wr.cell? ⟨q, o + k2, none⟩ = some (.int .u32 y) := hr k2 _ (by rw [List.getElem?_map, hk2, hy]; rfl)
        have hvy : v = x + 4294967296 * y := by rw [hv, headD_drop hy]
        have hor : bits .or .u64 (x : Int) ((y : Int) * 4294967296) = (v : Int) := by rw [or_words x y hx1 hy1, hvy]
        have hv1 : v < 18446744073709551616 := by omega
        have hk2I : (k : Int) + 1 = (k2 : Int) := by omega
        have q2 : (k2 : Int) < (la : Int) := by omega
        have q3 : decide ((k2 : Int) < (la : Int)) = true := decide_eq_true q2
        have q4 : (0 : Int) ≤ (k2 : Int) := by omega
        have hyw : (y : Int) * 4294967296 < 18446744073709551616 := by omega
        clear hx hr hsh hsh2 hset hz hv hvy hy hk2 hk1
        go_wp2_with fail
        refine ⟨⟨k + 1, ?_, by omega, HSET.out, HB2.out⟩, by simp [intOf]; omega⟩
        go_num
      · have hvx : v = x := by rw [hv, headD_none (by rw [← HLA.out]; omega)]; omega
        have q2 : ¬ ((k : Int) + 1 < (la : Int)) := by omega
        have q3 : decide ((k : Int) + 1 < (la : Int)) = false := decide_eq_false q2
        rw [hvx] at hzI
        have hzI2 : (x : Int) / 134217728 = (z : Int) := by omega
        clear hzI
        clear hx hr hsh hsh2 hset hz hv hvx hk1
        go_wp2_with fail
        refine ⟨⟨k + 1, ?_, by omega, HSET.out, HB2.out⟩, by simp [intOf]; omega⟩
        go_num
    · obtain rfl : la = k := by omega
      have hrow : RowL wr w.heap.size (shrL 27 A) := by
        have h := HR.out
        rw [Nat.sub_self, List.replicate_zero, List.append_nil, List.take_of_length_le (by rw [shrL_len, ← HLA.out]; exact Nat.le_refl _)] at h
        exact h
      have hlR : (shrL 27 A).length = la := by rw [shrL_len, ← HLA.out]
      have hT := trim_any (shrL 27 A) (some ⟨w.heap.size, 0, none⟩) (shrL 27 A).length wr (by omega) (shrL_low 27 A) (sl_fresh (ty := 66) hrow (by omega)) (fun b o x hx => by cases hx; exact ⟨_, _, hrow⟩)
      rw [shrL_val (by omega) A HTA.out, HVA.out, hlR] at hT
      rw [show (2 : Nat) ^ 27 = 134217728 from rfl] at hT
      have HT := Lib.hid hT
      clear hrow hT
      go_wp2_with fail
      refine HT.out.mono ?_
      rintro e w' ⟨⟨v, rfl, hv⟩, rfl⟩
      have HAV := Lib.hid hv
      clear hv
      go_wp2_with fail
      go_ret
      exact ⟨⟨v, rfl, HAV.out⟩, hBw⟩
set_option maxHeartbeats 4000000 in
theorem right30_any (n : Nat) (u : Value) (w : World) (hn : n < bigTop) (hu : AbsOf w u n) :
    Calls Tryd.prog 42 #[u, .int .u64 30] w fun e w' => (∃ r, e = .returned r ∧ AbsOf w' r (n / 1073741824)) ∧ Below w.heap.size w w' := by
  obtain ⟨a, ca, rfl, hsa, _⟩ := hu
  have hlta := wordsN_lt n
  have hva := wordsN_val n
  have hla := wordsN_len hn
  by_cases h0 : n = 0
  · subst h0
    rw [wordsN_zero]
    rw [show ([] : List Nat).length = 0 from rfl]
    clear hsa
    go_enter Tryd.func42, Tryd.ntmps42
    go_wp2_with fail
    go_ret
    exact ⟨⟨.slice none 0 0, rfl, by rw [Nat.zero_div]; exact AbsOf.zero _⟩, Below.refl _ _⟩
  have hl0 : (wordsN n).length ≠ 0 := fun h => h0 (wordsN_nil.1 h)
  obtain ⟨A, hA⟩ : ∃ A, A = wordsN n := ⟨_, rfl⟩
  rw [← hA] at hsa hlta hva hla hl0 ⊢
  obtain ⟨la, hLA⟩ : ∃ la, la = A.length := ⟨_, rfl⟩
  rw [← hLA] at hsa hla hl0 ⊢
  have HSA := Lib.hid hsa
  have HLA := Lib.hid hLA
  have HTA := Lib.hid hlta
  have HVA := Lib.hid hva
  have hmk := make_words la (by omega) w
  have hz0 : ¬ ((la : Int) ≤ 0) := by omega
  have hz1 : decide ((0 : Int) ≥ (la : Int)) = false := decide_eq_false (by omega)
  have hz3 : decide ((la : Int) ≤ 0) = false := decide_eq_false (by omega)
  clear hsa hA hLA hlta hva h0
  go_enter Tryd.func42, Tryd.ntmps42
  go_wp2_with fail
  obtain ⟨W, hW⟩ : ∃ W, W = w.alloc (.cells (zerosW la) 66) := ⟨_, rfl⟩
  have hR0 : RowL W w.heap.size (List.replicate la 0) := by rw [hW]; exact rowL_zeros rfl
  have hB0 : Below w.heap.size w W := by rw [hW]; exact (Below.refl _ _).alloc (Nat.le_refl _) _
  rw [← hW]
  clear hW hmk
  go_loopw [8, 9] (fun i _ wr => ∃ (k : Nat), i = .int .i64 k ∧ k ≤ la ∧ Aside (RowL wr w.heap.size ((shrL 30 A).take k ++ List.replicate (la - k) 0)) ∧ Below w.heap.size w wr) (fun i _ _ => la - (intOf i).toNat)
  case atStart => exact ⟨0, rfl, Nat.zero_le _, hR0, hB0⟩
  case round =>
    clear hR0 hB0
    obtain ⟨k, rfl, hk, HR, hBw⟩ := hrel
    have hgl : w.heap.size < wr.heap.size := lt_of_block HR.out
    by_cases hlt : k < la
    · obtain ⟨x, hx⟩ : ∃ x, A[k]? = some x := ⟨A[k]'(by have := HLA.out; omega), by simp⟩
      have hx1 : x < 4294967296 := HTA.out x (List.mem_of_getElem? hx)
      obtain ⟨q, o, rfl, hr⟩ := (HSA.out.below (by omega) hBw).row (by omega)
      have hc0 : wr.cell? ⟨q, o + k, none⟩ = some (.int .u32 x) := hr k _ (by rw [List.getElem?_map, hx]; rfl)
      have fr : wr.frozen? ⟨w.heap.size, k, none⟩ = false := Joins.unfrozen_of_block HR.out k
      have hlk : ((shrL 30 A).take k).length = k := by rw [List.length_take, shrL_len, ← HLA.out]; omega
      have hcz : wr.cell? ⟨w.heap.size, k, none⟩ = some (.int .u32 0) := HR.out.cell (by rw [List.getElem?_append_right (by omega), hlk, Nat.sub_self, List.getElem?_replicate, if_pos (by omega)])
      obtain ⟨v, hv⟩ : ∃ v, v = x + 4294967296 * (A.drop (k + 1)).headD 0 := ⟨_, rfl⟩
      have hsh := shrL_at 30 hx
      rw [← hv] at hsh
      obtain ⟨z, hz⟩ : ∃ z, z = v / 1073741824 % 4294967296 := ⟨_, rfl⟩
      have hsh2 : (shrL 30 A)[k]? = some z := by rw [hsh, hz]
      have hset : RowL (wr.setCell ⟨w.heap.size, k, none⟩ (.int .u32 (z : Nat))) w.heap.size ((shrL 30 A).take (k + 1) ++ List.replicate (la - (k + 1)) 0) := by
        have h := RowL.set (w := wr) HR.out k z
        obtain ⟨f, hf⟩ : ∃ f, la - k = f + 1 := ⟨la - k - 1, by omega⟩
        rw [hf, List.replicate_succ] at h
        have e := set_mid ((shrL 30 A).take k) 0 z (List.replicate f 0)
        rw [hlk] at e
        rw [e] at h
        rw [List.take_add_one, hsh2, show la - (k + 1) = f by omega, List.append_assoc]
        exact h
      have HSET := Lib.hid hset
      have HB2 := Lib.hid (hBw.setCell (p := ⟨w.heap.size, k, none⟩) (Nat.le_refl _) (.int .u32 (z : Nat)))
      have q0 : (0 : Int) ≤ (k : Int) := by omega
      have q1 : (k : Int) < (la : Int) := by omega
      have hzI : (v : Int) / 1073741824 % 4294967296 = (z : Int) := by omega
      by_cases hk1 : k + 1 < la
      · obtain ⟨y, hy⟩ : ∃ y, A[k + 1]? = some y := ⟨A[k + 1]'(by have := HLA.out; omega), by simp⟩
        have hy1 : y < 4294967296 := HTA.out y (List.mem_of_getElem? hy)
        obtain ⟨k2, hk2⟩ : ∃ k2, k2 = k + 1 := ⟨_, rfl⟩
        have hc1 : wr.cell? ⟨q, o + k2, none⟩ = some (.int .u32 y) := hr k2 _ (by rw [List.getElem?_map, hk2, hy]; rfl)
        have hvy : v = x + 4294967296 * y := by rw [hv, headD_drop hy]
        have hor : bits .or .u64 (x : Int) ((y : Int) * 4294967296) = (v : Int) := by rw [or_words x y hx1 hy1, hvy]
        have hv1 : v < 18446744073709551616 := by omega
        have hk2I : (k : Int) + 1 = (k2 : Int) := by omega
        have q2 : (k2 : Int) < (la : Int) := by omega
        have q3 : decide ((k2 : Int) < (la : Int)) = true := decide_eq_true q2
        have q4 : (0 : Int) ≤ (k2 : Int) := by omega
        have hyw : (y : Int) * 4294967296 < 18446744073709551616 := by omega
        clear hx hr hsh hsh2 hset hz hv hvy hy hk2 hk1
        go_wp2_with fail
        refine ⟨⟨k + 1, ?_, by omega, HSET.out, HB2.out⟩, by simp [intOf]; omega⟩
        go_num
      · have hvx : v = x := by rw [hv, headD_none (by rw [← HLA.out]; omega)]; omega
        have q2 : ¬ ((k : Int) + 1 < (la : Int)) := by omega
        have q3 : decide ((k : Int) + 1 < (la : Int)) = false := decide_eq_false q2
        rw [hvx] at hzI
        have hzI2 : (x : Int) / 1073741824 = (z : Int) := by omega
        clear hzI
        clear hx hr hsh hsh2 hset hz hv hvx hk1
        go_wp2_with fail
        refine ⟨⟨k + 1, ?_, by omega, HSET.out, HB2.out⟩, by simp [intOf]; omega⟩
        go_num
    · obtain rfl : la = k := by omega
      have hrow : RowL wr w.heap.size (shrL 30 A) := by
        have h := HR.out
        rw [Nat.sub_self, List.replicate_zero, List.append_nil, List.take_of_length_le (by rw [shrL_len, ← HLA.out]; exact Nat.le_refl _)] at h
        exact h
      have hlR : (shrL 30 A).length = la := by rw [shrL_len, ← HLA.out]
      have hT := trim_any (shrL 30 A) (some ⟨w.heap.size, 0, none⟩) (shrL 30 A).length wr (by omega) (shrL_low 30 A) (sl_fresh (ty := 66) hrow (by omega)) (fun b o x hx => by cases hx; exact ⟨_, _, hrow⟩)
      rw [shrL_val (by omega) A HTA.out, HVA.out, hlR] at hT
      rw [show (2 : Nat) ^ 30 = 1073741824 from rfl] at hT
      have HT := Lib.hid hT
      clear hrow hT
      go_wp2_with fail
      refine HT.out.mono ?_
      rintro e w' ⟨⟨v, rfl, hv⟩, rfl⟩
      have HAV := Lib.hid hv
      clear hv
      go_wp2_with fail
      go_ret
      exact ⟨⟨v, rfl, HAV.out⟩, hBw⟩
set_option maxHeartbeats 4000000 in
theorem right31_any (n : Nat) (u : Value) (w : World) (hn : n < bigTop) (hu : AbsOf w u n) :
    Calls Tryd.prog 42 #[u, .int .u64 31] w fun e w' => (∃ r, e = .returned r ∧ AbsOf w' r (n / 2147483648)) ∧ Below w.heap.size w w' := by
  obtain ⟨a, ca, rfl, hsa, _⟩ := hu
  have hlta := wordsN_lt n
  have hva := wordsN_val n
  have hla := wordsN_len hn
  by_cases h0 : n = 0
  · subst h0
    rw [wordsN_zero]
    rw [show ([] : List Nat).length = 0 from rfl]
    clear hsa
    go_enter Tryd.func42, Tryd.ntmps42
    go_wp2_with fail
    go_ret
    exact ⟨⟨.slice none 0 0, rfl, by rw [Nat.zero_div]; exact AbsOf.zero _⟩, Below.refl _ _⟩
  have hl0 : (wordsN n).length ≠ 0 := fun h => h0 (wordsN_nil.1 h)
  obtain ⟨A, hA⟩ : ∃ A, A = wordsN n := ⟨_, rfl⟩
  rw [← hA] at hsa hlta hva hla hl0 ⊢
  obtain ⟨la, hLA⟩ : ∃ la, la = A.length := ⟨_, rfl⟩
  rw [← hLA] at hsa hla hl0 ⊢
  have HSA := Lib.hid hsa
  have HLA := Lib.hid hLA
  have HTA := Lib.hid hlta
  have HVA := Lib.hid hva
  have hmk := make_words la (by omega) w
  have hz0 : ¬ ((la : Int) ≤ 0) := by omega
  have hz1 : decide ((0 : Int) ≥ (la : Int)) = false := decide_eq_false (by omega)
  have hz3 : decide ((la : Int) ≤ 0) = false := decide_eq_false (by omega)
  clear hsa hA hLA hlta hva h0
  go_enter Tryd.func42, Tryd.ntmps42
  go_wp2_with fail
  obtain ⟨W, hW⟩ : ∃ W, W = w.alloc (.cells (zerosW la) 66) := ⟨_, rfl⟩
  have hR0 : RowL W w.heap.size (List.replicate la 0) := by rw [hW]; exact rowL_zeros rfl
  have hB0 : Below w.heap.size w W := by rw [hW]; exact (Below.refl _ _).alloc (Nat.le_refl _) _
  rw [← hW]
  clear hW hmk
  go_loopw [8, 9] (fun i _ wr => ∃ (k : Nat), i = .int .i64 k ∧ k ≤ la ∧ Aside (RowL wr w.heap.size ((shrL 31 A).take k ++ List.replicate (la - k) 0)) ∧ Below w.heap.size w wr) (fun i _ _ => la - (intOf i).toNat)
  case atStart => exact ⟨0, rfl, Nat.zero_le _, hR0, hB0⟩
  case round =>
    clear hR0 hB0
    obtain ⟨k, rfl, hk, HR, hBw⟩ := hrel
    have hgl : w.heap.size < wr.heap.size := lt_of_block HR.out
    by_cases hlt : k < la
    · obtain ⟨x, hx⟩ : ∃ x, A[k]? = some x := ⟨A[k]'(by have := HLA.out; omega), by simp⟩
      have hx1 : x < 4294967296 := HTA.out x (List.mem_of_getElem? hx)
      obtain ⟨q, o, rfl, hr⟩ := (HSA.out.below (by omega) hBw).row (by omega)
      have hc0 : wr.cell? ⟨q, o + k, none⟩ = some (.int .u32 x) := hr k _ (by rw [List.getElem?_map, hx]; rfl)
      have fr : wr.frozen? ⟨w.heap.size, k, none⟩ = false := Joins.unfrozen_of_block HR.out k
      have hlk : ((shrL 31 A).take k).length = k := by rw [List.length_take, shrL_len, ← HLA.out]; omega
      have hcz : wr.cell? ⟨w.heap.size, k, none⟩ = some (.int .u32 0) := HR.out.cell (by rw [List.getElem?_append_right (by omega), hlk, Nat.sub_self, List.getElem?_replicate, if_pos (by omega)])
      obtain ⟨v, hv⟩ : ∃ v, v = x + 4294967296 * (A.drop (k + 1)).headD 0 := ⟨_, rfl⟩
      have hsh := shrL_at 31 hx
      rw [← hv] at hsh
      obtain ⟨z, hz⟩ : ∃ z, z = v / 2147483648 % 4294967296 := ⟨_, rfl⟩
      have hsh2 : (shrL 31 A)[k]? = some z := by rw [hsh, hz]
      have hset : RowL (wr.setCell ⟨w.heap.size, k, none⟩ (.int .u32 (z : Nat))) w.heap.size ((shrL 31 A).take (k + 1) ++ List.replicate (la - (k + 1)) 0) := by
        have h := RowL.set (w := wr) HR.out k z
        obtain ⟨f, hf⟩ : ∃ f, la - k = f + 1 := ⟨la - k - 1, by omega⟩
        rw [hf, List.replicate_succ] at h
        have e := set_mid ((shrL 31 A).take k) 0 z (List.replicate f 0)
        rw [hlk] at e
        rw [e] at h
        rw [List.take_add_one, hsh2, show la - (k + 1) = f by omega, List.append_assoc]
        exact h
      have HSET := Lib.hid hset
      have HB2 := Lib.hid (hBw.setCell (p := ⟨w.heap.size, k, none⟩) (Nat.le_refl _) (.int .u32 (z : Nat)))
      have q0 : (0 : Int) ≤ (k : Int) := by omega
      have q1 : (k : Int) < (la : Int) := by omega
      have hzI : (v : Int) / 2147483648 % 4294967296 = (z : Int) := by omega
      by_cases hk1 : k + 1 < la
      · obtain ⟨y, hy⟩ : ∃ y, A[k + 1]? = some y := ⟨A[k + 1]'(by have := HLA.out; omega), by simp⟩
        have hy1 : y < 4294967296 := HTA.out y (List.mem_of_getElem? hy)
        obtain ⟨k2, hk2⟩ : ∃ k2, k2 = k + 1 := ⟨_, rfl⟩
        have hc1 : wr.cell? ⟨q, o + k2, none⟩ = some (.int .u32 y) := hr k2 _ (by rw [List.getElem?_map, hk2, hy]; rfl)
        have hvy : v = x + 4294967296 * y := by rw [hv, headD_drop hy]
        have hor : bits .or .u64 (x : Int) ((y : Int) * 4294967296) = (v : Int) := by rw [or_words x y hx1 hy1, hvy]
        have hv1 : v < 18446744073709551616 := by omega
        have hk2I : (k : Int) + 1 = (k2 : Int) := by omega
        have q2 : (k2 : Int) < (la : Int) := by omega
        have q3 : decide ((k2 : Int) < (la : Int)) = true := decide_eq_true q2
        have q4 : (0 : Int) ≤ (k2 : Int) := by omega
        have hyw : (y : Int) * 4294967296 < 18446744073709551616 := by omega
        clear hx hr hsh hsh2 hset hz hv hvy hy hk2 hk1
        go_wp2_with fail
        refine ⟨⟨k + 1, ?_, by omega, HSET.out, HB2.out⟩, by simp [intOf]; omega⟩
        go_num
      · have hvx : v = x := by rw [hv, headD_none (by rw [← HLA.out]; omega)]; omega
        have q2 : ¬ ((k : Int) + 1 < (la : Int)) := by omega
        have q3 : decide ((k : Int) + 1 < (la : Int)) = false := decide_eq_false q2
        rw [hvx] at hzI
        have hzI2 : (x : Int) / 2147483648 = (z : Int) := by omega
        clear hzI
        clear hx hr hsh hsh2 hset hz hv hvx hk1
        go_wp2_with fail
        refine ⟨⟨k + 1, ?_, by omega, HSET.out, HB2.out⟩, by simp [intOf]; omega⟩
        go_num
    · obtain rfl : la = k := by omega
      have hrow : RowL wr w.heap.size (shrL 31 A) := by
        have h := HR.out
        rw [Nat.sub_self, List.replicate_zero, List.append_nil, List.take_of_length_le (by rw [shrL_len, ← HLA.out]; exact Nat.le_refl _)] at h
        exact h
      have hlR : (shrL 31 A).length = la := by rw [shrL_len, ← HLA.out]
      have hT := trim_any (shrL 31 A) (some ⟨w.heap.size, 0, none⟩) (shrL 31 A).length wr (by omega) (shrL_low 31 A) (sl_fresh (ty := 66) hrow (by omega)) (fun b o x hx => by cases hx; exact ⟨_, _, hrow⟩)
      rw [shrL_val (by omega) A HTA.out, HVA.out, hlR] at hT
      rw [show (2 : Nat) ^ 31 = 2147483648 from rfl] at hT
      have HT := Lib.hid hT
      clear hrow hT
      go_wp2_with fail
      refine HT.out.mono ?_
      rintro e w' ⟨⟨v, rfl, hv⟩, rfl⟩
      have HAV := Lib.hid hv
      clear hv
      go_wp2_with fail
      go_ret
      exact ⟨⟨v, rfl, HAV.out⟩, hBw⟩
end Go.Proofs.YtjbkfkgdpbjliaaDoor
