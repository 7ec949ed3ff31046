/-
  What From makes has just the cells: plain.
-/
import Derived.Test.YtdmamecfmfhlmaaZQuadPuts43
import Derived.Test.YtdmamecfmfhlmaaZQuadPutsQMade
namespace Go.Proofs.Ytdmamecfmfhlmaa
set_option maxRecDepth 100000

theorem cnt_build {n : Nat} {x y : Int} {l : CellL} (h : ∀ c ∈ l, x ≤ c.1 ∧ c.1 < x + 2 ^ n ∧ y ≤ c.2 ∧ c.2 < y + 2 ^ n) : cnt (buildT n x y l) ≤ l.length := by
  induction n generalizing x y l with
  | zero =>
    cases l with
    | nil => exact Nat.le_refl _
    | cons c l => show 1 ≤ (c :: l).length; simp
  | succ n ih =>
    have e : (2 : Int) ^ (n + 1) = 2 ^ n + 2 ^ n := by rw [Int.pow_succ]; omega
    rw [e] at h
    unfold buildT
    split
    · rw [show cnt (emptyT (n + 1)) = 0 from (cnt_zero (full_empty (n + 1))).2 rfl]; exact Nat.zero_le _
    · have q : ∀ k (c : Int × Int), c ∈ partOf (x + 2 ^ n) (y + 2 ^ n) k l → c ∈ l ∧ quadOf (x + 2 ^ n) (y + 2 ^ n) c = k := fun k c hc => by
        unfold partOf at hc
        rw [List.mem_filter, decide_eq_true_eq] at hc
        exact hc
      have i0 := ih (x := x) (y := y) (l := partOf (x + 2 ^ n) (y + 2 ^ n) 0 l) (fun c hc => by
        obtain ⟨h1, h2⟩ := q 0 c hc
        have := h c h1
        unfold quadOf at h2
        split at h2 <;> split at h2 <;> omega)
      have i1 := ih (x := x + 2 ^ n) (y := y) (l := partOf (x + 2 ^ n) (y + 2 ^ n) 1 l) (fun c hc => by
        obtain ⟨h1, h2⟩ := q 1 c hc
        have := h c h1
        unfold quadOf at h2
        split at h2 <;> split at h2 <;> omega)
      have i2 := ih (x := x) (y := y + 2 ^ n) (l := partOf (x + 2 ^ n) (y + 2 ^ n) 2 l) (fun c hc => by
        obtain ⟨h1, h2⟩ := q 2 c hc
        have := h c h1
        unfold quadOf at h2
        split at h2 <;> split at h2 <;> omega)
      have i3 := ih (x := x + 2 ^ n) (y := y + 2 ^ n) (l := partOf (x + 2 ^ n) (y + 2 ^ n) 3 l) (fun c hc => by
        obtain ⟨h1, h2⟩ := q 3 c hc
        have := h c h1
        unfold quadOf at h2
        split at h2 <;> split at h2 <;> omega)
      have hs := parts_sum (x + 2 ^ n) (y + 2 ^ n) l
      show cnt _ + cnt _ + cnt _ + cnt _ ≤ _
      omega
/-- A square that reaches all cells, from its corner. -/
theorem within_box {lev : Nat} {s : CellL} (h1 : 1 ≤ lev) (h : Within ((2 ^ (lev - 1) : Nat) : Int) s) : ∀ c ∈ s, -((2 ^ (lev - 1) : Nat) : Int) ≤ c.1 ∧ c.1 < -((2 ^ (lev - 1) : Nat) : Int) + 2 ^ lev ∧ -((2 ^ (lev - 1) : Nat) : Int) ≤ c.2 ∧ c.2 < -((2 ^ (lev - 1) : Nat) : Int) + 2 ^ lev := by
  intro c hc
  have hw := h c hc
  have e : (2 : Int) ^ lev = 2 * ((2 ^ (lev - 1) : Nat) : Int) := by
    obtain ⟨k, rfl⟩ : ∃ k, lev = k + 1 := ⟨lev - 1, by omega⟩
    rw [Int.pow_succ, Int.natCast_pow]
    show 2 ^ k * 2 = 2 * (2 : Int) ^ k
    omega
  rw [e]
  omega
theorem tidyF_first (zs : CellL) (h : (tidyF zs).2 = 0) : (tidyF zs).1 = sortF zs := by
  unfold tidyF at h ⊢
  split at h
  · simp at h
  · split at h
    · simp at h
    · next h1 h2 => rw [if_neg h1, if_neg h2]
theorem tidyF_nofar {zs : CellL} (h : (tidyF zs).2 = 0) : ¬ zs.any farC = true := by
  unfold tidyF at h
  split at h
  · simp at h
  · split at h
    · simp at h
    · assumption
/-- Cells tells just the cells that From was told. -/
theorem tidy_build {zs : CellL} {lev : Nat} (hok : (tidyF zs).2 = 0) (hl : Least (tidyF zs).1 lev) : tidyF (cellsT lev (buildT lev (-((2 ^ (lev - 1) : Nat) : Int)) (-((2 ^ (lev - 1) : Nat) : Int)) (tidyF zs).1) (-((2 ^ (lev - 1) : Nat) : Int)) (-((2 ^ (lev - 1) : Nat) : Int))) = ((tidyF zs).1, 0) := by
  have hb := within_box (by have := hl.lo; omega) hl.all
  have hc := cnt_build hb
  have hlen := tidyF_length zs
  have hs := tidyF_first zs hok
  obtain ⟨s, hsE⟩ : ∃ s, s = (tidyF zs).1 := ⟨_, rfl⟩
  rw [← hsE] at hb hc hlen hs ⊢
  obtain ⟨C, hC⟩ : ∃ C, C = cellsT lev (buildT lev (-((2 ^ (lev - 1) : Nat) : Int)) (-((2 ^ (lev - 1) : Nat) : Int)) s) (-((2 ^ (lev - 1) : Nat) : Int)) (-((2 ^ (lev - 1) : Nat) : Int)) := ⟨_, rfl⟩
  have hmem : ∀ z, z ∈ C ↔ z ∈ s := fun z => by rw [hC]; exact mem_build hb
  have hCl : C.length ≤ 4096 := by
    rw [hC, cellsT_len _ _ (full_build _ _ _ _)]; omega
  rw [← hC]
  unfold tidyF
  rw [if_neg (by omega), if_neg (fun e => by
    obtain ⟨z, hz, hf⟩ := List.any_eq_true.1 e
    have h1 := (hmem z).1 hz
    rw [hs, mem_sortF] at h1
    exact tidyF_nofar hok (List.any_eq_true.2 ⟨z, h1, hf⟩))]
  congr 1
  exact sortF_eq (by rw [hs]; exact rising_sortF zs) fun z => (hmem z).symm
section
open Go.RowKit
def max5 (n a b c d : Int) : Int := max (max (max (max n a) b) c) d
def reachF (zs : CellL) : Int := zs.foldl (fun n c => max5 n c.1 c.2 (-c.1 - 1) (-c.2 - 1)) 0
theorem reachF_snoc (zs : CellL) (c : Int × Int) : reachF (zs ++ [c]) = max5 (reachF zs) c.1 c.2 (-c.1 - 1) (-c.2 - 1) := by
  unfold reachF
  rw [List.foldl_append]; rfl
theorem reach_lt : ∀ {zs : CellL} {k : Int}, 0 < k → (reachF zs < k ↔ Within k zs) := by
  intro zs
  have key : ∀ (l : CellL) (n k : Int), l.foldl (fun n c => max5 n c.1 c.2 (-c.1 - 1) (-c.2 - 1)) n < k ↔ n < k ∧ Within k l := by
    intro l
    induction l with
    | nil => intro n k; simp [Within]
    | cons c l ih =>
      intro n k
      rw [List.foldl_cons, ih]
      unfold max5 Within
      simp only [List.mem_cons, forall_eq_or_imp]
      constructor
      · rintro ⟨h1, h2⟩
        exact ⟨by omega, ⟨by omega, by omega, by omega, by omega⟩, h2⟩
      · rintro ⟨h1, ⟨h2, h3, h4, h5⟩, h6⟩
        exact ⟨by omega, h6⟩
  intro k hk
  unfold reachF
  rw [key]
  exact ⟨fun h => h.2, fun h => ⟨hk, h⟩⟩
theorem reach_pos (zs : CellL) : 0 ≤ reachF zs := by
  have h := (reach_lt (zs := zs) (k := 1) (by omega))
  have key : ∀ (l : CellL) (n : Int), n ≤ l.foldl (fun n c => max5 n c.1 c.2 (-c.1 - 1) (-c.2 - 1)) n := by
    intro l
    induction l with
    | nil => intro n; exact Int.le_refl _
    | cons c l ih =>
      intro n
      rw [List.foldl_cons]
      refine Int.le_trans ?_ (ih _)
      unfold max5; omega
  exact key zs 0
theorem if_max (x y : Int) : (if y > x then y else x) = max x y := by
  split <;> omega
theorem run_max5 {P : Program} (ts : Array TypeId) (t : TypeId) (n a b c d : Int) (w : World) : (Builtin.max_ ts t #[.int .i64 n, .int .i64 a, .int .i64 b, .int .i64 c, .int .i64 d]).run P w = .ok (.int .i64 (max5 n a b c d)) w := by
  simp only [max5, ← if_max]
  simp [Builtin.max_, Builtin.max2]
set_option maxHeartbeats 4000000 in
theorem reach_any (zs : CellL) (a : Option Addr) (cap : Nat) (w : World) (hs : Sl w 2 16 a zs.length cap (zs.flatMap encCell)) (hz : Within 1099511627776 zs) :
    Calls Try.prog 16 #[.slice a zs.length cap] w fun e w' => e = .returned (.int .i64 (reachF zs)) ∧ Below w.heap.size w w' := by
  obtain ⟨n, hn⟩ : ∃ n, n = zs.length := ⟨_, rfl⟩
  have HS := Lib.hid hs
  have HZ := Lib.hid hz
  have HN := Lib.hid hn
  have hnb : n ≤ 8796093022208 := by have := hs.wide; omega
  rw [← hn]
  clear hs hz hn
  go_enter Try.func16, Try.ntmps16
  go_wp2_with fail
  go_loopw [3, 5, 8] (fun rv _ iv ws => ∃ k : Nat, iv = .int .i64 k ∧ k ≤ n ∧ rv = .int .i64 (reachF (zs.take k)) ∧ Below w.heap.size w ws) (fun _ _ iv _ => n - (intOf iv).toNat)
  case atStart => exact ⟨0, rfl, Nat.zero_le _, rfl, Below.refl _ _⟩
  case round =>
    obtain ⟨k, rfl, hk, rfl, hB⟩ := hrel
    by_cases hkn : k < n
    · obtain ⟨⟨zx, zy⟩, hzk⟩ : ∃ z, zs[k]? = some z := ⟨_, List.getElem?_eq_getElem (by rw [← HN.out]; exact hkn)⟩
      obtain ⟨b, o, rfl, hrow⟩ := HS.out.row (by have := HN.out; omega)
      have hbl : b < w.heap.size := HS.out.lt (by have := HN.out; omega) (by omega)
      have hrw := hrow.below hB hbl
      have e0 : wr.cell? ⟨b, o + k * 2, none⟩ = some (.int .i64 zx) := hrw (k * 2 + 0) (.int .i64 zx) (by rw [flat_at (k := 2) (by omega) (fun z => rfl) zs k 0 (zx, zy) hzk (by omega)]; rfl)
      have e1 : wr.cell? ⟨b, o + k * 2 + 1, none⟩ = some (.int .i64 zy) := hrw (k * 2 + 1) (.int .i64 zy) (by rw [flat_at (k := 2) (by omega) (fun z => rfl) zs k 1 (zx, zy) hzk (by omega)]; rfl)
      have hw := HZ.out _ (List.mem_of_getElem? hzk)
      simp only at hw
      have htk : zs.take (k + 1) = zs.take k ++ [(zx, zy)] := by rw [List.take_add_one, hzk]; rfl
      have hsn := reachF_snoc (zs.take k) (zx, zy)
      rw [← htk] at hsn
      obtain ⟨rc, hrc⟩ : ∃ r, r = reachF (zs.take k) := ⟨_, rfl⟩
      obtain ⟨rc2, hrc2⟩ : ∃ r, r = reachF (zs.take (k + 1)) := ⟨_, rfl⟩
      rw [← hrc, ← hrc2] at hsn
      rw [← hrc]
      have HR2 := Lib.hid hrc2
      have hmx : ∀ W, (Builtin.max_ #[3, 3, 3, 3, 3] 3 #[.int .i64 rc, .int .i64 zx, .int .i64 zy, .int .i64 (-zx - 1), .int .i64 (-zy - 1)]).run Try.prog W = .ok (.int .i64 rc2) W := fun W => by rw [run_max5, hsn]
      have u1 : decide ((k : Int) < (n : Int)) = true := decide_eq_true (by omega)
      have u2 : decide (k < n) = true := decide_eq_true hkn
      clear hrc hrc2 hsn htk hzk hrw hrow
      go_wp2_with fail
      refine ⟨⟨k + 1, by go_num, hkn, by rw [HR2.out], hB.alloc hB.size _⟩, by simp [intOf]; omega⟩
    · have u1 : decide ((k : Int) < (n : Int)) = false := decide_eq_false (by omega)
      have u2 : decide (k < n) = false := decide_eq_false hkn
      have hkl : zs.take k = zs := List.take_of_length_le (by have := HN.out; omega)
      rw [hkl]
      clear hkl
      go_wp2_with fail
      go_ret
      exact ⟨rfl, hB⟩
end
end Go.Proofs.Ytdmamecfmfhlmaa
