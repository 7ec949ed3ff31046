/-
  A new arena, and the law's made.
-/
import Derived.Test.YtdmamecfmfhlmaaZQuadPutsQFrom
import Derived.Test.YtdmamecfmfhlmaaZQuadPuts43
namespace Go.Proofs.Ytdmamecfmfhlmaa
set_option maxRecDepth 100000
open Go.RowKit

def newS (n : Nat) : ArS := ⟨n, [none, none], List.replicate 64 (n : Int), List.replicate 64 []⟩
theorem newS_at (n i : Nat) : atL (newS n).L i = none := by
  match i with
  | 0 => rfl
  | 1 => rfl
  | i + 2 => exact atL_out (by show 2 ≤ i + 2; omega)
theorem newS_ok {n : Nat} (hn : n ≤ 200000) : ArOk (newS n) :=
  { room := hn, two := Nat.le_refl _, nil0 := rfl, nil1 := rfl, long := by show 2 ≤ n + 2; omega, live := Nat.zero_le _
    uniq := fun i j x y hx => by rw [newS_at] at hx; cases hx
    mask := fun i x hx => by rw [newS_at] at hx; cases hx
    quota := by simp [newS]
    quotaR := fun q hq => by
      have := List.eq_of_mem_replicate hq
      omega
    added := by simp [newS]
    few := fun t l hl => by
      have := List.eq_of_mem_replicate (List.mem_of_getElem? hl)
      rw [this]; exact Nat.zero_le _ }
theorem newS_wf (n : Nat) : Wf (newS n).L := fun i x hx => by rw [newS_at] at hx; cases hx
theorem newS_live (n : Nat) : liveL (newS n).L = 0 := rfl
theorem newS_quo (n : Nat) {t : Nat} (ht : t < 64) : (newS n).quo t = n := by
  unfold ArS.quo newS
  simp only
  rw [List.getD_eq_getElem?_getD, List.getElem?_replicate, if_pos ht]; rfl
theorem newS_add (n t : Nat) : (newS n).add t = [] := by
  unfold ArS.add newS
  simp only
  rw [List.getD_eq_getElem?_getD, List.getElem?_replicate]
  split <;> rfl
theorem newS_count (n t : Nat) : countL (newS n).L t = 0 := rfl
theorem newS_bud {n t c : Nat} (hn : 44 + c ≤ n) (ht : t < 64) : Bud t (newS n) c := by
  have h := miss_le (newS n).L t
  refine ⟨?_, ?_⟩
  · rw [newS_live]; show 0 + miss (newS n).L t + c ≤ n; omega
  · rw [newS_live, newS_quo n ht]; omega
theorem arena0_at (n : Int) (b j : Nat) : (arena0 n b)[j]? = if j = 0 then some (.int .i64 n) else if j = 1 then some (.slice (some ⟨b, 0, none⟩) 2 2) else if j = 2 then some (.map (some (b + 1))) else Try.zeroCells91[j]? := by
  have hz : Try.zeroCells91.size = 197 := by kernel_rfl
  unfold arena0
  rw [Array.getElem?_setIfInBounds, Array.getElem?_setIfInBounds, Array.getElem?_setIfInBounds]
  simp only [Array.size_setIfInBounds, hz]
  by_cases h0 : j = 0
  · subst h0; rfl
  · by_cases h1 : j = 1
    · subst h1; rfl
    · by_cases h2 : j = 2
      · subst h2; rfl
      · rw [if_neg (by omega), if_neg (by omega), if_neg (by omega), if_neg h0, if_neg h1, if_neg h2]
theorem zeroA_eq : Try.zeroCells91.toList = [.int .i64 0, .slice none 0 0, .map none, .slice none 0 0] ++ (List.replicate 128 (.int .i64 0) ++ (List.replicate 64 (.slice none 0 0) ++ [.int .i64 0])) := by kernel_rfl
theorem zeroA_slice {j : Nat} (hj : j = 3 ∨ 132 ≤ j ∧ j < 196) : Try.zeroCells91[j]? = some (.slice none 0 0) := by
  rw [← Array.getElem?_toList, zeroA_eq]
  rcases hj with rfl | ⟨h1, h2⟩
  · rfl
  · rw [List.getElem?_append_right (by simp; omega), List.getElem?_append_right (by simp; omega), List.getElem?_append_left (by simp; omega), List.getElem?_replicate, if_pos (by simp; omega)]
theorem zeroA_int {j : Nat} (hj : (4 ≤ j ∧ j < 132) ∨ j = 196) : Try.zeroCells91[j]? = some (.int .i64 0) := by
  rw [← Array.getElem?_toList, zeroA_eq]
  rcases hj with ⟨h1, h2⟩ | rfl
  · rw [List.getElem?_append_right (by simp; omega), List.getElem?_append_left (by simp; omega), List.getElem?_replicate, if_pos (by simp; omega)]
  · rfl
theorem new_isAr {n : Nat} (hn : n ≤ 200000) {w : World} {b : Nat} {arr : Array Value} (h0 : w.heap[b]? = some (.cells twoEntries 86 (0, 0))) (h1 : w.heap[b + 1]? = some (.map #[] 0)) (h2 : w.heap[b + 2]? = some (.cells arr 91 (0, 0))) (hs : arr.size = 197)
    (ha : ∀ j, arr[j]? = if 68 ≤ j ∧ j < 132 then some (.int .i64 n) else (arena0 n b)[j]?) : IsAr (b + 2) (newS n) w (fun i => b ≤ i ∧ i < b + 3) := by
  have hvs : ∀ (t : Nat) (v : Value), (List.replicate 64 (Value.slice none 0 0))[t]? = some v → v = .slice none 0 0 := fun t v hv => List.eq_of_mem_replicate (List.mem_of_getElem? hv)
  refine ⟨arr, .slice (some ⟨b, 0, none⟩) 2 2, .slice none 0 0, b + 1, 0, [], fun _ => none, List.replicate 64 (.slice none 0 0), ?_⟩
  exact {
    ok := newS_ok hn
    good := fun i x hx => by rw [newS_at] at hx; cases hx
    own := h2
    size := hs
    c0 := by rw [ha, if_neg (by omega), arena0_at, if_pos rfl]; rfl
    c1 := by rw [ha, if_neg (by omega), arena0_at, if_neg (by omega), if_pos rfl]
    c2 := by rw [ha, if_neg (by omega), arena0_at, if_neg (by omega), if_neg (by omega), if_pos rfl]
    c3 := by rw [ha, if_neg (by omega), arena0_at, if_neg (by omega), if_neg (by omega), if_neg (by omega), zeroA_slice (by omega)]
    c4 := fun t ht => by rw [ha, if_neg (by omega), arena0_at, if_neg (by omega), if_neg (by omega), if_neg (by omega), zeroA_int (by omega), newS_count]; rfl
    c5 := fun t ht => by rw [ha, if_pos (by omega), newS_quo n ht]
    c6 := fun t ht => by rw [ha, if_neg (by omega), arena0_at, if_neg (by omega), if_neg (by omega), if_neg (by omega), zeroA_slice (by omega), List.getElem?_replicate, if_pos ht]
    c7 := by rw [ha, if_neg (by omega), arena0_at, if_neg (by omega), if_neg (by omega), if_neg (by omega), zeroA_int (by omega), newS_live]; rfl
    list := ⟨rfl, .inr ⟨b, 0, 2, twoEntries, rfl, h0, by show 2 ≤ 2; omega, by simp [maxLen], by simp [twoEntries], rfl⟩⟩
    map := ⟨#[], 0, h1, by simp, by simp [MapKept.Stamped], fun e he => by simp at he, fun a v hv => by cases hv⟩
    keys := fun k i => by
      constructor
      · intro h; cases h
      · rintro ⟨x, hx, _⟩; rw [newS_at] at hx; cases hx
    free := Row.nil _ _ _
    heap := fun j x y h0 h1 => by simp at h1
    nodup := List.nodup_nil
    frees := fun i => by
      constructor
      · intro h; cases h
      · rintro ⟨a1, a2, _⟩
        have : i < 2 := a2
        omega
    len := by simp
    rows := fun t v hv => by
      rw [hvs t v hv, newS_add]; exact Row.nil _ _ _
    fb := ⟨by omega, by omega⟩
    fm := ⟨by omega, by omega⟩
    f1 := fun q hq => by
      have : b = q := by simpa [Value.ownBlock] using hq
      omega
    f3 := fun q hq => by cases hq
    fv := fun t v q hv hq => by rw [hvs t v hv] at hq; cases hq
    lt := fun i hi => by have := lt_of_block h2; omega
    apart3 := fun t v q hv hq => by rw [hvs t v hv] at hq; cases hq
    apart := fun t s v u q _ hv _ hq => by rw [hvs t v hv] at hq; cases hq }
/-- What the law's made comes to, where the list is one: an arena with the square of the cells, tenant 3's. -/
def MadeOk (w : World) (zs : CellL) (e : Ending) (w' : World) : Prop :=
  ∃ (b : Nat) (lev : Nat) (r : Int) (S : ArS) (F : Nat → Prop), e = .returned (.tuple #[.pointer (some ⟨b, 0, none⟩), .int .i64 r, .int .i64 0, .bool true]) ∧ Least (tidyF zs).1 lev ∧ I64 r ∧ IsAr b S w' F ∧ (∀ i, F i → w.heap.size ≤ i) ∧ Below w.heap.size w w' ∧ Grew 3 (newS 200000) S ∧ Wf S.L ∧
    Den S.L 3 lev (buildT lev (-((2 ^ (lev - 1) : Nat) : Int)) (-((2 ^ (lev - 1) : Nat) : Int)) (tidyF zs).1) r ∧ liveL S.L + miss S.L 3 ≤ 44 + lev * (tidyF zs).1.length
set_option maxHeartbeats 2000000 in
theorem made_ok (zs : CellL) (a : Option Addr) (c : Nat) (w : World) (hs : Sl w 2 16 a zs.length c (zs.flatMap encCell)) (hok : (tidyF zs).2 = 0) (hlen : zs.length ≤ 300) :
    Calls Try.prog 10 #[.slice a zs.length c] w (MadeOk w zs) := by
  have HN := Lib.hid (arenaNew_any 200000 w (by omega))
  rw [show ((200000 : Nat) : Int) = (200000 : Int) from rfl] at HN
  have HS := Lib.hid hs
  have HOK := Lib.hid hok
  obtain ⟨n, hn⟩ : ∃ n, n = zs.length := ⟨_, rfl⟩
  rw [← hn]
  have HL := Lib.hid hn
  clear hs hok hn
  go_enter Try.func10, Try.ntmps10
  go_wp2_with fail
  with_reducible refine HN.out.mono ?_
  rintro e w1 ⟨arr, rfl, hb, h0, h1, h2, hsz, ha⟩
  have HB := Lib.hid hb
  have HI := Lib.hid (new_isAr (n := 200000) (by omega) h0 h1 h2 hsz ha)
  have HCE := Lib.hid (cells_any zs a c w1 (HS.out.below (by omega) hb))
  unfold Cells at HCE
  rw [← HL.out] at HCE
  clear hb h0 h1 h2 hsz ha
  go_wp2_with fail
  with_reducible refine HCE.out.mono ?_
  rintro e w2 ⟨v, rfl, hb2, hown⟩
  obtain ⟨a2, c2, rfl, hsl⟩ := sl_of_own (bytes := 16) hown (by have := HL.out; omega)
  rw [HL.out] at hsl
  have HF := Lib.hid (from_ok (w.heap.size + 2) 3 (newS 200000) (fun i => w.heap.size ≤ i ∧ i < w.heap.size + 3) zs a2 c2 w2 (HI.out.below hb2) (newS_wf _) (by omega) hsl HOK.out)
  rw [← HL.out] at HF
  rw [show ((3 : Nat) : Int) = (3 : Int) from rfl] at HF
  have HB2 := Lib.hid (HB.out.trans (hb2.mono HB.out.size))
  clear hb2 hown hsl
  go_wp2_with fail
  with_reducible refine HF.out.mono ?_
  rintro e w3 ⟨lev, hlev, r, er, S, F, rfl, hr, hres, hden, _, hI, hF, hK⟩
  have hcost := costB_le lev (-((2 ^ (lev - 1) : Nat) : Int)) (-((2 ^ (lev - 1) : Nat) : Int)) (tidyF zs).1
  have hln : (tidyF zs).1.length ≤ 300 := by
    have : (tidyF zs).1.length ≤ zs.length := by
      unfold tidyF
      split
      · exact Nat.zero_le _
      · split
        · exact Nat.zero_le _
        · exact sortF_length zs
    omega
  have hmul : lev * (tidyF zs).1.length ≤ 41 * 300 := Nat.mul_le_mul hlev.hi hln
  obtain ⟨k, hk⟩ : ∃ k, k = 200000 - 44 - costB lev (-((2 ^ (lev - 1) : Nat) : Int)) (-((2 ^ (lev - 1) : Nat) : Int)) (tidyF zs).1 := ⟨_, rfl⟩
  obtain ⟨her, hbud⟩ := hres.bud k (newS_bud (by omega) (by omega)) rfl
  subst her
  have hroom := hres.grew.room.1
  have HLEV := Lib.hid hlev
  have HR := Lib.hid hr
  have HRES := Lib.hid hres
  have HDEN := Lib.hid (hden rfl)
  have HII := Lib.hid hI
  have HFF := Lib.hid (show ∀ i, F i → w.heap.size ≤ i from fun i hi => by
    rcases hF i hi with h | h
    · exact h.1
    · exact Nat.le_trans HB2.out.size h)
  have HKK := Lib.hid (show Below w.heap.size w w3 from HB2.out.trans (hK.toBelow (fun i hi => hi.1) HB2.out.size))
  have HLIVE := Lib.hid (show liveL S.L + miss S.L 3 ≤ 44 + lev * (tidyF zs).1.length by
    have h1 := hbud.1
    rw [hroom] at h1
    have h2 : (newS 200000).room = 200000 := rfl
    rw [h2] at h1
    omega)
  clear hlev hr hres hden hI hF hK hcost hln hmul hk hbud hroom
  go_wp2_with fail
  refine bodyPost_ret (v := .tuple #[.pointer (some ⟨w.heap.size + 2, 0, none⟩), .int .i64 r, .int .i64 0, .bool true]) (by simp [results, Try.results10, go_sem]) rfl ?_
  exact ⟨_, lev, r, S, F, rfl, HLEV.out, HR.out, HII.out, HFF.out, HKK.out, HRES.out.grew, HRES.out.wf, HDEN.out, HLIVE.out⟩
end Go.Proofs.Ytdmamecfmfhlmaa
