/-
  The document's Tidy; The document's way to merge two lists of cells: each cell of both put where it belongs, if it is to stay. Plain lists.
-/
import Derived.Test.YtdmamecfmfhlmaaZQuadPutsPuts
import Derived.Test.YtdmamecfmfhlmaaZQuadPuts46
namespace Go.Proofs.Ytdmamecfmfhlmaa
set_option maxRecDepth 100000
open Go.RowKit

theorem far_any (n : Int) (w : World) : Calls Try.prog 42 #[.int .i64 n] w fun e w' => e = .returned (.bool (farF n)) ∧ w = w' := by
  rcases (show n ≤ -1099511627776 ∨ (-1099511627776 < n ∧ n < 1099511627776) ∨ (-1099511627776 < n ∧ 1099511627776 ≤ n) by omega) with h | ⟨h, h'⟩ | ⟨h, h'⟩
  · have hf : farF n = true := by simp [farF]; omega
    rw [hf]
    go_enter Try.func42, Try.ntmps42
    go_wp2_with fail
    go_ret
    exact ⟨rfl, rfl⟩
  · have hf : farF n = false := by simp [farF]; omega
    rw [hf]
    go_enter Try.func42, Try.ntmps42
    go_wp2_with fail
    go_ret
    exact ⟨by simp; omega, rfl⟩
  · have hf : farF n = true := by simp [farF]; omega
    rw [hf]
    go_enter Try.func42, Try.ntmps42
    go_wp2_with fail
    go_ret
    exact ⟨by simp, rfl⟩
/-- What has been put so far. -/
def putsF (zs : List (Int × Int)) (k : Nat) : List (Int × Int) := (zs.take k).foldl (fun o c => putF c o) []
theorem putsF_succ {zs : List (Int × Int)} {k : Nat} {c : Int × Int} (h : zs[k]? = some c) : putsF zs (k + 1) = putF c (putsF zs k) := by
  unfold putsF
  rw [List.take_add_one, h]
  simp
theorem putsF_all (zs : List (Int × Int)) : putsF zs zs.length = sortF zs := by unfold putsF; rw [List.take_length]; rfl
theorem putsF_rising (zs : List (Int × Int)) (k : Nat) : Rising (putsF zs k) := (foldl_putF (zs.take k) [] List.Pairwise.nil).1
theorem putsF_len (zs : List (Int × Int)) (k : Nat) : (putsF zs k).length ≤ k := by
  have h := foldl_putF_length (zs.take k) []
  have h2 := List.length_take_le k zs
  simp only [List.length_nil, Nat.zero_add] at h
  unfold putsF; omega
set_option maxHeartbeats 2000000 in
theorem refTidy_any (zs : List (Int × Int)) (a : Option Addr) (cap : Nat) (w : World) (hs : Sl w 2 16 a zs.length cap (zs.flatMap encCell)) :
    Calls Try.prog 14 #[.slice a zs.length cap] w (Tidied w zs) := by
  obtain ⟨n, hN⟩ : ∃ n, n = zs.length := ⟨_, rfl⟩
  have HN := Lib.hid hN
  rw [← hN] at hs ⊢
  have hwide := hs.wide
  clear hN
  by_cases hbig : 4096 < n
  · have ht : tidyF zs = ([], 5) := by rw [tidyF, if_pos (by have := HN.out; omega)]
    have HT := Lib.hid ht
    clear ht
    go_enter Try.func14, Try.ntmps14
    go_wp2_with fail
    refine bodyPost_ret (v := .tuple #[.slice none 0 0, .int .i64 5]) (by simp [results, Try.results14, go_sem]) rfl ⟨.slice none 0 0, by rw [HT.out], Below.refl _ _, by rw [HT.out]; exact Tight.nil _ _⟩
  · go_enter Try.func14, Try.ntmps14
    go_wp2_with fail
    go_loopw [13] (fun i wr => ∃ k : Nat, i = .int .i64 k ∧ k ≤ n ∧ Aside ((zs.take k).any farC = false) ∧ w = wr) (fun i _ => n - (intOf i).toNat)
    case atStart => exact ⟨0, rfl, Nat.zero_le _, rfl, rfl⟩
    case round =>
      obtain ⟨k, rfl, hk, HF, rfl⟩ := hrel
      by_cases hlt : k < n
      · obtain ⟨c, hc⟩ : ∃ c, zs[k]? = some c := ⟨zs[k]'(by have := HN.out; omega), by simp⟩
        obtain ⟨b, o, rfl, hrow⟩ := hs.row (by omega)
        have e0 := hrow _ _ (flat_nth hc).1
        have e1 : w.cell? ⟨b, o + k * 2 + 1, none⟩ = some (.int .i64 c.2) := by have := hrow _ _ (flat_nth hc).2; rw [← Nat.add_assoc] at this; exact this
        have HC := Lib.hid hc
        clear hc hrow
        obtain ⟨x, y⟩ := c
        dsimp only at e0 e1
        by_cases hx : farF x = true
        · have ht := tidyF_far HC.out (by have := HN.out; omega) (by simp [farC, hx])
          have HT := Lib.hid ht
          clear ht
          go_wp2_with ((go_at_call 42; refine (far_any _ _).mono ?_; rintro e w3 ⟨rfl, rfl⟩))
          refine bodyPost_ret (v := .tuple #[.slice none 0 0, .int .i64 3]) (by simp [results, Try.results14, go_sem]) rfl ⟨.slice none 0 0, by rw [HT.out], Below.refl _ _, by rw [HT.out]; exact Tight.nil _ _⟩
        · have hx : farF x = false := by simpa using hx
          by_cases hy : farF y = true
          · have ht := tidyF_far HC.out (by have := HN.out; omega) (by simp [farC, hy])
            have HT := Lib.hid ht
            clear ht
            go_wp2_with ((go_at_call 42; refine (far_any _ _).mono ?_; rintro e w3 ⟨rfl, rfl⟩))
            refine bodyPost_ret (v := .tuple #[.slice none 0 0, .int .i64 3]) (by simp [results, Try.results14, go_sem]) rfl ⟨.slice none 0 0, by rw [HT.out], Below.refl _ _, by rw [HT.out]; exact Tight.nil _ _⟩
          · have hy : farF y = false := by simpa using hy
            have hs1 : Aside ((zs.take (k + 1)).any farC = false) := any_take_succ HC.out HF.out (by simp [farC, hx, hy])
            go_wp2_with ((go_at_call 42; refine (far_any _ _).mono ?_; rintro e w3 ⟨rfl, rfl⟩))
            exact ⟨⟨k + 1, by go_num, by omega, hs1, trivial⟩, by simp [intOf]; omega⟩
      · obtain rfl : k = n := by omega
        have hany : zs.any farC = false := by
          have h := HF.out
          rwa [HN.out, List.take_length] at h
        have ht : tidyF zs = (sortF zs, 0) := by rw [tidyF, if_neg (by have := HN.out; omega), if_neg (by rw [hany]; simp)]
        have HT := Lib.hid ht
        clear ht hany HF
        go_wp2_with fail
        go_loopw [5, 33] (fun o i wr => ∃ j : Nat, i = .int .i64 j ∧ j ≤ k ∧ wr.ownsRow w.heap.size 39 2 o (putsF zs j).length ((putsF zs j).flatMap encCell) ∧ Below w.heap.size w wr) (fun _ i _ => k - (intOf i).toNat)
        case atStart => exact ⟨0, rfl, Nat.zero_le _, World.ownsRow_nil _ _ _ _, Below.refl _ _⟩
        case round =>
          obtain ⟨j, rfl, hj, hO, hB⟩ := hrel
          have hz := hB.size
          by_cases hlt2 : j < k
          · obtain ⟨c, hc⟩ : ∃ c, zs[j]? = some c := ⟨zs[j]'(by have := HN.out; omega), by simp⟩
            obtain ⟨b, o, rfl, hrow⟩ := hs.row (by omega)
            have hb := hs.lt (by omega) (by omega)
            have e0 := (hB.cell (p := ⟨b, o + j * 2, none⟩) hb).trans (hrow _ _ (flat_nth hc).1)
            have e1 : wr.cell? ⟨b, o + j * 2 + 1, none⟩ = some (.int .i64 c.2) := (hB.cell (p := ⟨b, o + j * 2 + 1, none⟩) hb).trans (by have := hrow _ _ (flat_nth hc).2; rw [← Nat.add_assoc] at this; exact this)
            have HC := Lib.hid hc
            clear hc hrow
            obtain ⟨va, vc, rfl⟩ := own_form hO
            have hlt3 := hO.lt
            have hput := put_any (putsF zs j) c w.heap.size va vc (wr.alloc (.cells #[.int .i64 c.1, .int .i64 c.2] 39)) (hO.alloc _) (by simp; omega) (putsF_rising zs j) (by have := putsF_len zs j; omega)
            have HP := Lib.hid hput
            have HO := Lib.hid hO
            have HL := Lib.hid hlt3
            clear hput hO hlt3
            obtain ⟨x, y⟩ := c
            dsimp only at e0 e1
            go_wp2_with fail
            refine HP.out.mono ?_
            rintro e w1 ⟨v1, rfl, hO1, hK1⟩
            go_wp2_with fail
            refine ⟨⟨j + 1, by go_num, by omega, by rw [putsF_succ HC.out]; exact hO1, (hB.alloc hz _).trans (hK1.toBelow (fun i hi => (HL.out i hi).1) (by simp; omega))⟩, by simp [intOf]; omega⟩
          · obtain rfl : j = k := by omega
            obtain ⟨va, vc, rfl⟩ := own_form hO
            have hT := Tight.of_own hO
            have e : putsF zs j = sortF zs := by rw [HN.out, putsF_all]
            have HE := Lib.hid e
            obtain ⟨m, hm⟩ : ∃ m, m = (putsF zs j).length := ⟨_, rfl⟩
            rw [← hm] at hT
            have HTT := Lib.hid hT
            clear hT e hO
            rw [← hm]
            clear hm
            go_wp2_with fail
            refine bodyPost_ret (v := .tuple #[.slice va m vc, .int .i64 0]) (by simp [results, Try.results14, go_sem]) rfl ⟨.slice va m vc, by rw [HT.out], hB, ?_⟩
            rw [HT.out]
            show Tight _ _ _ (sortF zs)
            rw [← HE.out]
            exact HTT.out
end Go.Proofs.Ytdmamecfmfhlmaa
namespace Go.Proofs.Ytdmamecfmfhlmaa
set_option maxRecDepth 100000

def gatherStep (keep : Bool → Bool → Bool) (x y : List (Int × Int)) (o : List (Int × Int)) (c : Int × Int) : List (Int × Int) := if keep (decide (c ∈ x)) (decide (c ∈ y)) = true then putF c o else o
def gatherF (keep : Bool → Bool → Bool) (x y zs out : List (Int × Int)) : List (Int × Int) := zs.foldl (gatherStep keep x y) out
theorem gatherF_spec (keep : Bool → Bool → Bool) (x y : List (Int × Int)) : ∀ (zs out : List (Int × Int)), Rising out →
    Rising (gatherF keep x y zs out) ∧ ∀ c, c ∈ gatherF keep x y zs out ↔ c ∈ out ∨ (c ∈ zs ∧ keep (decide (c ∈ x)) (decide (c ∈ y)) = true)
  | [], out, h => ⟨h, fun c => by simp [gatherF]⟩
  | z :: zs, out, h => by
    unfold gatherF
    rw [List.foldl_cons]
    have e : gatherStep keep x y out z = if keep (decide (z ∈ x)) (decide (z ∈ y)) = true then putF z out else out := rfl
    by_cases hk : keep (decide (z ∈ x)) (decide (z ∈ y)) = true
    · rw [e, if_pos hk]
      obtain ⟨h1, h2⟩ := gatherF_spec keep x y zs (putF z out) (rising_putF z out h)
      refine ⟨h1, fun c => ?_⟩
      rw [show zs.foldl (gatherStep keep x y) (putF z out) = gatherF keep x y zs (putF z out) from rfl, h2, mem_putF, List.mem_cons]
      constructor
      · rintro ((rfl | h) | h)
        · exact .inr ⟨.inl rfl, hk⟩
        · exact .inl h
        · exact .inr ⟨.inr h.1, h.2⟩
      · rintro (h | ⟨rfl | h, h'⟩)
        · exact .inl (.inr h)
        · exact .inl (.inl rfl)
        · exact .inr ⟨h, h'⟩
    · rw [e, if_neg hk]
      obtain ⟨h1, h2⟩ := gatherF_spec keep x y zs out h
      refine ⟨h1, fun c => ?_⟩
      rw [show zs.foldl (gatherStep keep x y) out = gatherF keep x y zs out from rfl, h2, List.mem_cons]
      constructor
      · rintro (h | h)
        · exact .inl h
        · exact .inr ⟨.inr h.1, h.2⟩
      · rintro (h | ⟨rfl | h, h'⟩)
        · exact .inl h
        · exact absurd h' hk
        · exact .inr ⟨h, h'⟩
theorem gather_pick (keep keep' : Bool → Bool → Bool) (hk : ∀ a b, a = true ∨ b = true → keep a b = keep' a b) {x y : List (Int × Int)} (hx : Rising x) (hy : Rising y) : gatherF keep x y (x ++ y) [] = pickF keep' x y := by
  obtain ⟨h1, h2⟩ := gatherF_spec keep x y (x ++ y) [] List.Pairwise.nil
  obtain ⟨h3, h4⟩ := pickF_spec keep' x y hx hy
  refine rising_ext h1 h3 fun c => ?_
  rw [h2, h4]
  constructor
  · rintro (h | ⟨h, h'⟩)
    · cases h
    · rw [List.mem_append] at h
      refine ⟨h, ?_⟩
      rw [← hk _ _ (by simpa using h)]; exact h'
  · rintro ⟨h, h'⟩
    refine .inr ⟨List.mem_append.2 h, ?_⟩
    rw [hk _ _ (by simpa using h)]; exact h'
theorem gatherF_length (keep : Bool → Bool → Bool) (x y : List (Int × Int)) : ∀ (zs out : List (Int × Int)), (gatherF keep x y zs out).length ≤ out.length + zs.length
  | [], out => by simp [gatherF]
  | z :: zs, out => by
    have h := gatherF_length keep x y zs (gatherStep keep x y out z)
    have h2 : (gatherStep keep x y out z).length ≤ out.length + 1 := by
      unfold gatherStep
      split
      · exact putF_length z out
      · omega
    have e : gatherF keep x y (z :: zs) out = gatherF keep x y zs (gatherStep keep x y out z) := rfl
    rw [e, List.length_cons]
    omega
end Go.Proofs.Ytdmamecfmfhlmaa
